/- Images: a plane is read; why; Read. Merged of ImL ImM ImN. -/
import Derived.Test.YtbpcddimnbjoeaaImQK
import Derived.Great.BuildSlice
import Derived.Test.YtbpcddimnbjoeaaImAD
import Derived.Lib.MinMax
namespace Go.Proofs.Ytbpcddimnbjoeaa
open Go.RowKit
theorem takeR_good {s : RS} {lo hi : Nat} (h : (takeR s lo hi).1.e = 0) : s.e = 0 ∧ lo ≤ (takeR s lo hi).2 := by
  unfold takeR at h ⊢
  split
  · rename_i he
    rw [if_pos he] at h
    split
    · rename_i h0
      rw [if_pos h0] at h
      split
      · rename_i hr; rw [if_pos hr] at h; simp at h
      · exact ⟨he, by simp only; omega⟩
    · rename_i h0
      rw [if_neg h0] at h
      simp at h; omega
  · rename_i he; rw [if_neg he] at h; exact absurd h he
/-- Nodes, read, lie in a row; their own rows elsewhere. -/
structure PlS (w : World) (P g q : Nat) (lk nn en tp : Int) (s : RS) (ds : List ND) (wr : World) (A : Option Addr) (n c : Nat) : Prop where
  rr : RrS wr g q lk nn s
  tch : Tch (Gq g q) w wr
  res : Blk wr w.heap.size 24 #[.slice none 0 0, .int .i64 0, .int .i64 0]
  pl : Blk wr P 24 #[.slice A n c, .int .i64 en, .int .i64 tp]
  own : wr.ownsRow (P + 1) 42 7 (.slice A n c) n (flat ds)
  len : ds.length = n
  nds : ∀ d ∈ ds, AtN wr (fun k => P + 1 ≤ k ∧ k < wr.heap.size ∧ (Value.slice A n c).ownBlock ≠ some k) d
  lt : g < w.heap.size ∧ q < w.heap.size
  ln : w.heap.size < P
section
variable {w wr w' W5 : World} {P g q : Nat} {lk nn en tp : Int} {s s' : RS} {ds : List ND} {d : ND} {A : Option Addr} {n c b c' : Nat}
theorem PlS.sz (H : PlS w P g q lk nn en tp s ds wr A n c) : P + 1 ≤ wr.heap.size := H.pl.lt
theorem PlS.num (H : PlS w P g q lk nn en tp s ds wr A n c) (hr : RrS w' g q lk nn s') (ht : Tch (Gq g q) wr w') : PlS w P g q lk nn en tp s' ds w' A n c :=
  ⟨hr, H.tch.trans ht fun _ h => .inl h, H.res.tch ht (gq_lt H.lt (Nat.le_refl _)), H.pl.tch ht (gq_lt H.lt (by have := H.ln; omega)), ownsRow_tchJ H.own ht fun k hk => gq_lt H.lt (by have := (H.own.lt k hk).1; have := H.ln; omega), H.len,
    fun l hl => ((H.nds l hl).tch ht fun k hk => ⟨hk.2.1, gq_lt H.lt (by have := H.ln; omega)⟩).mono fun k hk => ⟨hk.1, by have := ht.size; omega, hk.2.2⟩, H.lt, H.ln⟩
theorem PlS.drew (H : PlS w P g q lk nn en tp s ds wr A n c) : PlS w P g q lk nn en tp s ds wr.drew A n c :=
  H.num (H.rr.below (below_drewN (Below.refl _ wr) 1)) (Tch.of_below (below_drewN (Below.refl _ wr) 1))
theorem PlS.push (H : PlS w P g q lk nn en tp s ds wr A n c) {B4 : Nat} (hB4 : ∀ k, (Value.slice A n c).ownBlock = some k → k < B4) (hP : P + 1 ≤ B4) (hd : AtN wr (fun k => B4 ≤ k ∧ k < wr.heap.size) d)
    (hgr : wr.grownBy W5 (Value.slice A n c).ownBlock) (hat : (Value.slice A n c).ownBlock = some b ∨ wr.heap.size ≤ b)
    (ho : W5.ownsRow (P + 1) 42 7 (.slice (some ⟨b, 0, none⟩) (n + 1) c') (n + 1) (flat ds ++ d.cells.toList)) :
    PlS w P g q lk nn en tp s (ds ++ [d]) (W5.setCell ⟨P, 0, none⟩ (.slice (some ⟨b, 0, none⟩) (n + 1) c')) (some ⟨b, 0, none⟩) (n + 1) c' := by
  have hlt := H.lt
  have hln := H.ln
  have hs := H.sz
  have hb : P + 1 ≤ b := by
    rcases hat with h | h
    · exact (H.own.lt b h).1
    · omega
  have ht := grownBy_tchJ hgr
  have hk : ∀ k, some k = (Value.slice A n c).ownBlock → P + 1 ≤ k := fun k h => (H.own.lt k h.symm).1
  obtain ⟨V, hV⟩ : ∃ V, W5.setCell ⟨P, 0, none⟩ (.slice (some ⟨b, 0, none⟩) (n + 1) c') = V := ⟨_, rfl⟩
  have t2 : Tch (fun k => k = P ∨ some k = (Value.slice A n c).ownBlock) wr V := by rw [← hV]; exact (ht.mono fun k _ h => .inr h).setCell (.inl rfl) _ _
  have t3 : Tch (fun k => k = P) W5 V := by rw [← hV]; exact Tch.setCell (S := fun k => k = P) (Tch.refl _ _) rfl _ _
  have hn5 := H.pl.tch ht fun h => by have := hk _ h; omega
  have e := hn5.set_ 0 (.slice (some ⟨b, 0, none⟩) (n + 1) c')
  have hno : ∀ k, k < P → ¬ (k = P ∨ some k = (Value.slice A n c).ownBlock) := fun k h1 h => by
    rcases h with h | h
    · omega
    · have := hk k h; omega
  have hbk : ∀ k, k < wr.heap.size → (Value.slice A n c).ownBlock ≠ some k → b ≠ k := fun k h1 h2 h => by
    subst h
    rcases hat with h | h
    · exact h2 h
    · omega
  rw [hV] at e ⊢
  refine ⟨H.rr.tch t2 (hno _ (by omega)) (hno _ (by omega)), H.tch.trans t2 fun k h => .inr ?_, H.res.tch t2 (hno _ (by omega)), ?_, ?_, by rw [List.length_append, H.len]; rfl, ?_, hlt, hln⟩
  · rcases h with h | h
    · omega
    · have := hk k h; omega
  · simpa using e
  · rw [flat_append]
    exact ownsRow_tchJ ho t3 fun k h => by
      have : b = k := by injection h
      omega
  · intro l hml
    rcases List.mem_append.1 hml with h | h
    · refine ((H.nds l h).tch t2 fun k hk => ⟨hk.2.1, ?_⟩).mono fun k hk => ⟨hk.1, by have := t2.size; omega, fun e => hbk k hk.2.1 hk.2.2 (by injection e)⟩
      rintro (h1 | h1)
      · omega
      · exact hk.2.2 h1.symm
    · obtain rfl := List.mem_singleton.1 h
      have hq : ∀ k, B4 ≤ k → (Value.slice A n c).ownBlock ≠ some k := fun k hk e => by have := hB4 k e; omega
      refine (hd.tch t2 fun k hk => ⟨hk.2, ?_⟩).mono fun k hk => ⟨by omega, by have := t2.size; omega, fun e => hbk k hk.2 (hq k hk.1) (by injection e)⟩
      rintro (h1 | h1)
      · omega
      · exact hq k hk.1 h1.symm
end
/-- A plane at hand, that was read. -/
def PgR (w : World) (B : Nat) (A : Option Addr) (n c : Nat) (ds : List ND) : Prop := PgAt w B A n c ds ∧ ∀ d ∈ ds, (Lit.int .u64 d.tags).wf = true
/-- .. in blocks of S. -/
def PgS (w : World) (S : Nat → Prop) (A : Option Addr) (n c : Nat) (ds : List ND) : Prop :=
  (A = none → n = 0 ∧ c = 0) ∧ n ≤ 1048576 ∧ ds.length = n ∧ (0 < n → ∃ x, A = some ⟨x, 0, none⟩ ∧ S x ∧ Rw w x 42 (c * 7) (flat ds)) ∧ ∀ d ∈ ds, AtN w S d
theorem PgS.tch {w w' : World} {S W : Nat → Prop} {A : Option Addr} {n c : Nat} {ds : List ND} (h : PgS w S A n c ds) (hT : Tch W w w') (hS : ∀ b, S b → b < w.heap.size ∧ ¬ W b) : PgS w' S A n c ds :=
  ⟨h.1, h.2.1, h.2.2.1, fun h0 => by obtain ⟨x, e, hx, hr⟩ := h.2.2.2.1 h0; exact ⟨x, e, hx, hr.at_ (hT.block x (hS x hx).1 (hS x hx).2)⟩, fun d hd => (h.2.2.2.2 d hd).tch hT hS⟩
theorem PgS.mono {w : World} {S S' : Nat → Prop} {A : Option Addr} {n c : Nat} {ds : List ND} (h : PgS w S A n c ds) (hS : ∀ b, S b → S' b) : PgS w S' A n c ds :=
  ⟨h.1, h.2.1, h.2.2.1, fun h0 => by obtain ⟨x, e, hx, hr⟩ := h.2.2.2.1 h0; exact ⟨x, e, hS x hx, hr⟩, fun d hd => (h.2.2.2.2 d hd).mono hS⟩
theorem PgS.pgr {w : World} {S : Nat → Prop} {A : Option Addr} {n c B : Nat} {ds : List ND} (h : PgS w S A n c ds) (hS : ∀ b, S b → b < B) : PgR w B A n c ds := by
  obtain ⟨h1, h2, h3, h4, h5⟩ := h
  refine ⟨⟨h1, h2, ⟨by simpa using h3, cells7 ds, fun h0 => ?_⟩, fun d h => (h5 d h).at_ hS⟩, fun d h => (h5 d h).2.2⟩
  obtain ⟨x, e, hx, hr⟩ := h4 h0
  refine ⟨x, 0, e, hS x hx, fun i c hi j v hv => ?_⟩
  rw [List.getElem?_map, Option.map_eq_some_iff] at hi
  obtain ⟨d, hd, rfl⟩ := hi
  rw [Nat.zero_add]
  have hj : j < 7 := (List.getElem?_eq_some_iff.1 hv).1
  exact hr.cell (by rw [flat_get2 hd j hj]; exact hv)
theorem PgS.nil (w : World) (S : Nat → Prop) : PgS w S none 0 0 [] := ⟨fun _ => ⟨rfl, rfl⟩, Nat.zero_le _, rfl, fun h => absurd h (Nat.lt_irrefl 0), fun d hd => (by cases hd)⟩
theorem pgs_of {w : World} {B n c : Nat} {S : Nat → Prop} {A : Option Addr} {ds : List ND} (ho : w.ownsRow B 42 7 (.slice A n c) n (flat ds)) (hl : ds.length = n) (hn : n ≤ 1048576) (hS : ∀ k, B ≤ k → k < w.heap.size → S k) (hd : ∀ d ∈ ds, AtN w S d) : PgS w S A n c ds := by
  refine ⟨fun e => ?_, hn, hl, fun h0 => ?_, hd⟩
  · rcases ho.2 with ⟨q, q0⟩ | ⟨x, cap, cur, q, _⟩
    · injection q with _ q2 q3; exact ⟨q2, q3⟩
    · injection q with q1 _ _; exact absurd (e.symm.trans q1) (by simp)
  · obtain ⟨x, e, hx, _, _, hr⟩ := Rw.of_own ho h0
    exact ⟨x, e, hS x hx hr.lt, hr⟩
def RetPl (g q : Nat) (p : PR) (w : World) (e : Ending) (w' : World) : Prop :=
  ∃ A n c ds nn, e = .returned (.agg (pgL A n c p.en p.tp)) ∧ RrS w' g q p.lk nn p.s ∧ Tch (Gq g q) w w' ∧ PgS w' (fun k => w.heap.size ≤ k ∧ k < w'.heap.size) A n c ds ∧ ds.map ND.norm = p.ns
theorem ndsR_stop {lk nn k : Nat} {s s5 : RS} {a v : List ND} (h : ndsR lk nn k s a = (s5, v)) (hk : k = 0 ∨ s.e ≠ 0) : s = s5 ∧ a = v := by
  cases k with
  | zero => injection h with h1 h2; exact ⟨h1, h2⟩
  | succ k =>
    rw [ndsR, if_neg (by omega)] at h
    injection h with h1 h2
    exact ⟨h1, h2⟩
theorem RrS.put {w : World} {g q : Nat} {a b : Int} {s : RS} (h : RrS w g q a b s) (lk nn : Int) : RrS ((w.setCell ⟨g, 2, none⟩ (.int .i64 lk)).setCell ⟨g, 3, none⟩ (.int .i64 nn)) g q lk nn s ∧ Tch (Gq g q) w ((w.setCell ⟨g, 2, none⟩ (.int .i64 lk)).setCell ⟨g, 3, none⟩ (.int .i64 nn)) := by
  obtain ⟨far, why, l, h1, h2, h3⟩ := h
  have t : Tch (fun k => k = g) w ((w.setCell ⟨g, 2, none⟩ (.int .i64 lk)).setCell ⟨g, 3, none⟩ (.int .i64 nn)) := Tch.setCell (S := fun k => k = g) (Tch.setCell (S := fun k => k = g) (Tch.refl _ _) rfl _ _) rfl _ _
  have e := (h1.set_ 2 (.int .i64 lk)).set_ 3 (.int .i64 nn)
  refine ⟨⟨far, why, l, by simpa using e, (t.block q h2.lt fun e => h3.1 e.symm).trans h2, h3⟩, t.mono fun k _ h => .inl h⟩
theorem RrS.nodes {w : World} {g q : Nat} {lk nn : Int} {s : RS} (h : RrS w g q lk nn s) : w.cell? ⟨g, 3, none⟩ = some (.int .i64 nn) := by
  obtain ⟨far, why, l, h1, _⟩ := h
  exact h1.cell 3
theorem RrS.frozen {w : World} {g q : Nat} {lk nn : Int} {s : RS} (h : RrS w g q lk nn s) (i : Nat) : w.frozen? ⟨g, i, none⟩ = false := by
  obtain ⟨far, why, l, h1, _⟩ := h
  exact h1.frozen i
theorem plane_loadL {w : World} {b : Nat} {A : Option Addr} {n c : Nat} {en tp : Int} (h : Blk w b 24 #[.slice A n c, .int .i64 en, .int .i64 tp]) : (Instr.loadAt 24 (.pointer (some ⟨b, 0, none⟩))).run Try.prog w = .ok (.agg #[.slice A n c, .int .i64 en, .int .i64 tp]) w := plane_load h
theorem store_nodesL {w : World} {b o : Nat} {u : Value} {A : Option Addr} {n c : Nat} (h : w.cell? ⟨b, o, none⟩ = some u) (hf : w.frozen? ⟨b, o, none⟩ = false) : (Instr.storeAt 22 (.pointer (some ⟨b, o, none⟩)) (.slice A n c)).run Try.prog w = .ok () (w.setCell ⟨b, o, none⟩ (.slice A n c)) := by
  simp [go_sem, h, hf]
theorem ndH_at (w : World) (S : Nat → Prop) {nx pv : Nat} (h : nx ≤ 4096 ∧ pv ≤ 4096) : AtN w S (ndH nx pv) :=
  ⟨⟨⟨fun _ => ⟨rfl, rfl⟩, Nat.zero_le _, ⟨rfl, fun h => absurd h (Nat.lt_irrefl 0)⟩, (fun x hx => by cases hx)⟩, fun _ => ⟨rfl, rfl⟩, Nat.zero_le _, rfl, (fun l hl => by cases hl), rfl, rfl, wf_i64K (by omega), wf_i64K (by omega), (fun l hl => by cases hl)⟩, ⟨rfl, fun h => absurd h (Nat.lt_irrefl 0)⟩, rfl⟩
theorem PlS.begin {w w9 : World} {P g q : Nat} {lk nn en tp : Int} {s : RS} {nx pv : Nat} (hr : RrS w9 g q lk nn s) (ht : Tch (Gq g q) w w9) (hk : Blk w9 w.heap.size 24 #[.slice none 0 0, .int .i64 0, .int .i64 0]) (hp : Blk w9 P 24 #[.slice none 0 0, .int .i64 en, .int .i64 tp]) (hl : g < w.heap.size ∧ q < w.heap.size) (hP : w.heap.size < P) (hx : nx ≤ 4096 ∧ pv ≤ 4096) :
    PlS w P g q lk nn en tp s [ndH nx pv] ((w9.alloc (.cells (ndH nx pv).cells 42)).setCell ⟨P, 0, none⟩ (.slice (some ⟨w9.heap.size, 0, none⟩) 1 1)) (some ⟨w9.heap.size, 0, none⟩) 1 1 := by
  have hb : Below w9.heap.size w9 (w9.alloc (.cells (ndH nx pv).cells 42)) := (Below.refl _ w9).alloc (Nat.le_refl _) _
  have ho : (w9.alloc (.cells (ndH nx pv).cells 42)).ownsRow (P + 1) 42 7 (.slice (some ⟨w9.heap.size, 0, none⟩) 1 1) 1 (ndH nx pv).cells.toList := World.ownsRow_lit w9 _ 1 hp.lt (by decide) rfl
  obtain ⟨V, hV⟩ : ∃ V, (w9.alloc (.cells (ndH nx pv).cells 42)).setCell ⟨P, 0, none⟩ (.slice (some ⟨w9.heap.size, 0, none⟩) 1 1) = V := ⟨_, rfl⟩
  have t3 : Tch (fun k => k = P) (w9.alloc (.cells (ndH nx pv).cells 42)) V := by rw [← hV]; exact Tch.setCell (S := fun k => k = P) (Tch.refl _ _) rfl _ _
  have hpl := hp.lt
  have t2 : Tch (fun k => k = P) w9 V := (Tch.of_below (S := fun k => k = P) hb).trans t3 fun k h => .inl h
  have e := (hp.below hb hp.lt).set_ 0 (.slice (some ⟨w9.heap.size, 0, none⟩) 1 1)
  rw [hV] at e ⊢
  refine ⟨hr.tch t2 (by omega) (by omega), ht.trans t2 fun k h => .inr (by omega), hk.tch t2 (by omega), by simpa using e, ?_, rfl, ?_, hl, hP⟩
  · have e2 : flat [ndH nx pv] = (ndH nx pv).cells.toList := by simp [flat]
    rw [e2]
    exact ownsRow_tchJ ho t3 fun k h => by
      have : w9.heap.size = k := by injection h
      omega
  · intro d hd
    rw [List.mem_singleton.1 hd]
    exact ndH_at _ _ hx
theorem ndL_one (d : ND) : ∀ u ∈ d.cells.toList, u.oneCell' = true := by
  intro u hu
  have := nz_cells d
  rw [Array.all_eq_true'] at this
  exact this u (by simpa using hu)
theorem run_nodeL (w : World) (d : ND) : (Instr.buildSlice 22 1 #[(0, .agg d.cells)]).run Try.prog w = .ok (.slice (some ⟨w.heap.size, 0, none⟩) 1 1) (w.alloc (.cells d.cells 42)) := by
  obtain ⟨i, hi, hz, hz1, hz2⟩ := info_parts info_node
  obtain ⟨id, ⟨vA, vn, vc, vx⟩, tg, lv, LA, ln, lc, ls, nx, pv⟩ := d
  simp only [ND.cells, IS.v]
  refine Go.run_buildSlice w _ _ 1 _ _ i _ Try.underlying22 hi hz (by rw [hz1]; decide) (by rw [hz1]; decide) ?_
  rw [hz1]; kernel_rfl
theorem exec_nodeL {o : Oper} {a : Act} {d : ND} {parts : Array (Nat × Operand)} (ho : o.op = .buildSlice 22 1 parts) (hp : (parts.map fun (i, y) => (i, a.eval y)) = #[(0, .agg d.cells)]) (w : World) : (execOp a.eval o).run Try.prog w = .ok (.value (.slice (some ⟨w.heap.size, 0, none⟩) 1 1)) (w.alloc (.cells d.cells 42)) := by
  unfold execOp
  simp only [ho, hp, Sem.run_bind, run_nodeL, Result.andThen_ok]
  rfl
set_option maxRecDepth 100000 in
set_option maxHeartbeats 8000000 in
theorem rr_plane {w : World} {g q : Nat} {s : RS} (h : RrS w g q 0 0 s) :
    Calls Try.prog 28 #[.pointer (some ⟨g, 0, none⟩)] w (RetPl g q (plnR s) w) := by
  obtain ⟨w1, hw1⟩ : ∃ x, w.alloc (.cells #[.slice none 0 0, .int .i64 0, .int .i64 0] 24) = x := ⟨_, rfl⟩
  have hb1 : Below w.heap.size w w1 := by rw [← hw1]; exact (Below.refl _ w).alloc (Nat.le_refl _) _
  have k1 : Blk w1 w.heap.size 24 #[.slice none 0 0, .int .i64 0, .int .i64 0] := by rw [← hw1]; exact Blk.new _ _ _
  have hlt := h.lt
  have hr1 := h.below hb1
  obtain ⟨s1, lk, e1⟩ : ∃ a b, takeR s 1 32 = (a, b) := ⟨_, _, rfl⟩
  obtain ⟨s2, nn, e2⟩ : ∃ a b, takeR s1 1 4097 = (a, b) := ⟨_, _, rfl⟩
  have HR1 := Lib.hid hr1
  have HT1 : Hid (Tch (Gq g q) w w1) := Tch.of_below hb1
  have HK1 := Lib.hid k1
  have HLT := Lib.hid hlt
  have E1 := Lib.hid e1
  have E2 := Lib.hid e2
  have hlk : lk ≤ 32 := take_le e1
  have hnn : nn ≤ 4097 := take_le e2
  have HPN : Hid (plnR s = if s2.e = 0 then pl1R lk nn s2 else ⟨s2, [], 0, 0, lk⟩) := by show _ = _; unfold plnR; simp only [e1, e2]
  clear hb1 k1 hlt hr1 h e1 e2
  rw [HPN.out]
  by_cases he : s2.e = 0
  · have hv : (s2.e == 0) = true := by simpa using he
    have hg2 := takeR_good (s := s1) (lo := 1) (hi := 4097) (by rw [E2.out]; exact he)
    rw [E2.out] at hg2
    have hg1 := takeR_good (s := s) (lo := 1) (hi := 32) (by rw [E1.out]; exact hg2.1)
    rw [E1.out] at hg1
    have hnn1 : 1 ≤ nn := hg2.2
    have HNN : Hid (1 ≤ nn ∧ nn ≤ 4097 ∧ lk ≤ 32) := ⟨hnn1, hnn, hlk⟩
    rw [if_pos he]
    obtain ⟨s3, en, e3⟩ : ∃ a b, takeR s2 0 (nn - 1) = (a, b) := ⟨_, _, rfl⟩
    obtain ⟨s4, tp, e4⟩ : ∃ a b, takeR s3 0 7 = (a, b) := ⟨_, _, rfl⟩
    obtain ⟨s5, nx, e5⟩ : ∃ a b, takeR s4 0 (nn - 1) = (a, b) := ⟨_, _, rfl⟩
    obtain ⟨s6, pv, e6⟩ : ∃ a b, takeR s5 0 (nn - 1) = (a, b) := ⟨_, _, rfl⟩
    obtain ⟨s7, nsx, e7⟩ : ∃ a b, ndsR lk nn (nn - 1) s6 [ndH nx pv] = (a, b) := ⟨_, _, rfl⟩
    have HP : Hid (pl1R lk nn s2 = ⟨s7, nsx, en, tp, lk⟩) := by show _ = _; unfold pl1R; simp only [e3, e4, e5, e6, e7]
    rw [HP.out]
    have E3 := Lib.hid e3
    have E4 := Lib.hid e4
    have E5 := Lib.hid e5
    have E6 := Lib.hid e6
    have E7 := Lib.hid e7
    have htp : tp ≤ 7 := take_le e4
    have HNX : Hid (nx ≤ nn - 1 ∧ pv ≤ nn - 1) := ⟨take_le e5, take_le e6⟩
    clear hg1 hg2 e3 e4 e5 e6 e7 HP he HPN
    go_enter Try.func28, Try.ntmps28
    go_upto_region 1 with fail
    (try rw [hw1])
    clear hw1
    go_upto_region 2 with (first
      | (go_at_call 47; (with_reducible refine (rr_take HR1.out 1 32 E1.out (lo' := 1) rfl (hi' := 32) rfl).mono ?_); rintro e w2 ⟨rfl, h2r, h2t⟩; have HR2 := Lib.hid h2r; have HT2 := Lib.hid h2t; clear h2r h2t)
      | (go_at_call 47; (with_reducible refine (rr_take HR2.out 1 4097 E2.out (lo' := 1) rfl (hi' := 4097) rfl).mono ?_); rintro e w3 ⟨rfl, h2r, h2t⟩; have HR3 := Lib.hid h2r; have HT3 := Lib.hid h2t; clear h2r h2t; have c2 := HR3.out.links; have c3 := HR3.out.nodes; have f2 := HR3.out.frozen 2; have f3 := HR3.out.frozen 3))
    obtain ⟨h4r, h4t⟩ := HR3.out.put lk nn
    have HT4 := Lib.hid (((HT1.out.trans HT2.out fun _ h => .inl h).trans HT3.out fun _ h => .inl h).trans h4t fun _ h => .inl h)
    have HK4 := Lib.hid (((HK1.out.tch HT2.out (gq_lt HLT.out (Nat.le_refl _))).tch HT3.out (gq_lt HLT.out (Nat.le_refl _))).tch h4t (gq_lt HLT.out (Nat.le_refl _)))
    obtain ⟨w4, hw4⟩ : ∃ x, (w3.setCell ⟨g, 2, none⟩ (.int .i64 (lk : Nat))).setCell ⟨g, 3, none⟩ (.int .i64 (nn : Nat)) = x := ⟨_, rfl⟩
    rw [hw4] at h4r HT4 HK4
    rw [hw4]
    have HR4 := Lib.hid h4r
    clear hw4 h4r h4t c2 c3 f2 f3 HR1 HR2 HR3 HT1 HT2 HT3 HK1 E1 E2
    have HF := Lib.hid (rr_fine HR4.out)
    rw [hv] at HF
    clear hv
    go_upto_region 4 with (go_at_call 48; (with_reducible refine HF.out.mono ?_); rintro e wf ⟨rfl, rfl⟩)
    clear HF
    go_upto_region 5 with (first
      | (go_at_call 49; (with_reducible refine (rr_slotE HR4.out HNN.out.1 HNN.out.2.1 E3.out).mono ?_); rintro e w5 ⟨rfl, h2r, h2t⟩; have HR5 := Lib.hid h2r; have HT5 := Lib.hid h2t; clear h2r h2t)
      | (go_at_call 47; (with_reducible refine (rr_take HR5.out 0 7 E4.out (lo' := 0) rfl (hi' := 7) rfl).mono ?_); rintro e w6 ⟨rfl, h2r, h2t⟩; have HR6 := Lib.hid h2r; have HT6 := Lib.hid (HT5.out.trans h2t fun _ h => .inl h); clear h2r h2t))
    obtain ⟨w7, hw7⟩ : ∃ x, w6.alloc (.cells #[.slice none 0 0, .int .i64 (en : Nat), .int .i64 (tp : Nat)] 24) = x := ⟨_, rfl⟩
    have hb7 : Below w6.heap.size w6 w7 := by rw [← hw7]; exact (Below.refl _ w6).alloc (Nat.le_refl _) _
    have k7 : Blk w7 w6.heap.size 24 #[.slice none 0 0, .int .i64 (en : Nat), .int .i64 (tp : Nat)] := by rw [← hw7]; exact Blk.new _ _ _
    have HR7 := Lib.hid (HR6.out.below hb7)
    have HK6 : Hid (Blk w6 w.heap.size 24 #[.slice none 0 0, .int .i64 0, .int .i64 0]) := HK4.out.tch HT6.out (gq_lt HLT.out (Nat.le_refl _))
    have HK7 := Lib.hid (HK6.out.below hb7 HK6.out.lt)
    have HT7 : Hid (Tch (Gq g q) w w7) := (HT4.out.trans HT6.out fun _ h => .inl h).trans (Tch.of_below (S := fun _ => False) hb7) fun k h => h.elim
    have HPL : Hid (w.heap.size < w6.heap.size) := HK6.out.lt
    obtain ⟨P, hP⟩ : ∃ x, w6.heap.size = x := ⟨_, rfl⟩
    rw [hP] at k7 HPL
    have HP7 := Lib.hid k7
    rw [hw7, hP]
    clear hw7 hb7 k7 hP HR4 HR5 HR6 HT4 HT5 HT6 HK4 HK6 E3 E4
    go_upto_region 6 with (first
      | (go_at_call 49; (with_reducible refine (rr_slotE HR7.out HNN.out.1 HNN.out.2.1 E5.out).mono ?_); rintro e w8 ⟨rfl, h2r, h2t⟩; have HR8 := Lib.hid h2r; have HT8 := Lib.hid h2t; clear h2r h2t)
      | (go_at_call 49; (with_reducible refine (rr_slotE HR8.out HNN.out.1 HNN.out.2.1 E6.out).mono ?_); rintro e w9 ⟨rfl, h2r, h2t⟩; have HR9 := Lib.hid h2r; have HT9 := Lib.hid (HT8.out.trans h2t fun _ h => .inl h); clear h2r h2t; have HP9 : Hid (Blk w9 P 24 #[.slice none 0 0, .int .i64 (en : Nat), .int .i64 (tp : Nat)]) := HP7.out.tch HT9.out (gq_lt HLT.out (by have := HPL.out; omega)); have SR := store_nodesL (w := w9.alloc (.cells #[.int .u64 0, .slice none 0 0, .int .u64 0, .int .i64 0, .slice none 0 0, .int .i64 (nx : Nat), .int .i64 (pv : Nat)] 42)) (A := some ⟨w9.heap.size, 0, none⟩) (n := 1) (c := 1) ((HP9.out.alloc _).cell 0) ((HP9.out.alloc _).frozen 0))
      | refine wpList_storeE SR _ _ rfl rfl rfl rfl ?_)
    obtain ⟨W0, hW0⟩ : ∃ x, (w9.alloc (.cells #[.int .u64 0, .slice none 0 0, .int .u64 0, .int .i64 0, .slice none 0 0, .int .i64 (nx : Nat), .int .i64 (pv : Nat)] 42)).setCell ⟨P, 0, none⟩ (.slice (some ⟨w9.heap.size, 0, none⟩) 1 1) = x := ⟨_, rfl⟩
    have HS0 : Hid (PlS w P g q lk nn en tp s6 [ndH nx pv] W0 (some ⟨w9.heap.size, 0, none⟩) 1 1) := by
      show PlS _ _ _ _ _ _ _ _ _ _ _ _ _ _
      rw [← hW0]
      exact .begin HR9.out (HT7.out.trans HT9.out fun _ h => .inl h) (HK7.out.tch HT9.out (gq_lt HLT.out (Nat.le_refl _))) HP9.out HLT.out HPL.out (by have := HNX.out; omega)
    (try simp only [Act.put])
    rw [hW0]
    clear hW0 SR HP9 HR9 HT9 HR8 HT8 HR7 HT7 HK7 HP7 E5 E6
    go_loopg [] (nn - 1) (fun k wr => ∃ (s' : RS) (ds : List ND) (A : Option Addr) (n c : Nat), n + k = nn ∧ Hid (PlS w P g q lk nn en tp s' ds wr A n c) ∧ Hid (ndsR lk nn k s' (ds.map ND.norm) = (s7, nsx)))
    case atStart => exact ⟨s6, [ndH nx pv], _, 1, 1, by omega, HS0, E7⟩
    case round =>
      obtain ⟨s', ds, A, n, c, hk, hn, hv⟩ := hrel
      clear HS0 E7
      have hWD := hn.out.drew
      by_cases hk0 : gk = 0
      · obtain ⟨rfl, hds⟩ := ndsR_stop hv.out (.inl hk0)
        have HDS := Lib.hid hds
        have hlt : ¬ (n : Int) < (nn : Int) := by omega
        clear hv hds
        go_upto_region 6 with fail
        refine wp_region_held_drew (S := fun W' => PlS w P g q lk nn en tp s' ds W' A n c) (by kernel_rfl) hWD (fun hH => ?_)
        obtain ⟨W, hW⟩ : ∃ x, wr.drew = x := ⟨_, rfl⟩
        rw [hW] at hH ⊢
        clear hW hWD hn
        refine wpAnyH_take (i := 0) (v := .pointer (some ⟨P, 0, none⟩)) rfl (by kernel_rfl) (by kernel_rfl) (by kernel_rfl) (fun _ _ _ h => h) (.inl ⟨by rfl, fun _ _ => by kernel_rfl⟩) hH ?_
        (try simp only [List.getElem_toArray, List.getElem_cons_zero, Act.put, List.setIfInBounds_toArray, List.set_cons_zero, List.set_cons_succ])
        refine wpAnyH_take (i := 1) (v := .slice A n c) rfl (by kernel_rfl) (by kernel_rfl) (by kernel_rfl) (fun _ _ _ h => h) (yieldsIf_loadP (by rfl) _ rfl rfl (fun _ q => load_nodes ((q.pl.cell 0).trans rfl))) hH ?_
        (try simp only [List.getElem_toArray, List.getElem_cons_zero, List.getElem_cons_succ, Act.put, List.setIfInBounds_toArray, List.set_cons_zero, List.set_cons_succ])
        refine wpAnyH_take (i := 2) (v := .int .i64 (n : Nat)) rfl (by kernel_rfl) (by kernel_rfl) (by kernel_rfl) (fun _ _ _ h => h) (.inl ⟨by rfl, fun _ _ => by kernel_rfl⟩) hH ?_
        (try simp only [List.getElem_toArray, List.getElem_cons_zero, List.getElem_cons_succ, Act.put, List.setIfInBounds_toArray, List.set_cons_zero, List.set_cons_succ])
        refine wpAnyH_take (i := 3) (v := .pointer (some ⟨g, 0, none⟩)) rfl (by kernel_rfl) (by kernel_rfl) (by kernel_rfl) (fun _ _ _ h => h) (.inl ⟨by rfl, fun _ _ => by kernel_rfl⟩) hH ?_
        (try simp only [List.getElem_toArray, List.getElem_cons_zero, List.getElem_cons_succ, Act.put, List.setIfInBounds_toArray, List.set_cons_zero, List.set_cons_succ])
        refine wpAnyH_take (i := 4) (v := .pointer (some ⟨g, 0, none⟩)) rfl (by kernel_rfl) (by kernel_rfl) (by kernel_rfl) (fun _ _ _ h => h) (.inl ⟨by rfl, fun _ _ => by kernel_rfl⟩) hH ?_
        (try simp only [List.getElem_toArray, List.getElem_cons_zero, List.getElem_cons_succ, Act.put, List.setIfInBounds_toArray, List.set_cons_zero, List.set_cons_succ])
        refine wpAnyH_take (i := 5) (v := .pointer (some ⟨g, 3, none⟩)) rfl (by kernel_rfl) (by kernel_rfl) (by kernel_rfl) (fun _ _ _ h => h) (.inl ⟨by rfl, fun _ _ => by kernel_rfl⟩) hH ?_
        (try simp only [List.getElem_toArray, List.getElem_cons_zero, List.getElem_cons_succ, Act.put, List.setIfInBounds_toArray, List.set_cons_zero, List.set_cons_succ])
        refine wpAnyH_take (i := 6) (v := .int .i64 (nn : Nat)) rfl (by kernel_rfl) (by kernel_rfl) (by kernel_rfl) (fun _ _ _ h => h) (yieldsIf_loadP (by rfl) _ rfl rfl (fun _ q => load_i64 q.rr.nodes)) hH ?_
        (try simp only [List.getElem_toArray, List.getElem_cons_zero, List.getElem_cons_succ, Act.put, List.setIfInBounds_toArray, List.set_cons_zero, List.set_cons_succ])
        refine wpAnyH_take (i := 7) (v := .bool false) rfl (by kernel_rfl) (by kernel_rfl) (by kernel_rfl) (fun _ _ _ h => h) (yieldsIf_lssR (by rfl) _ _ rfl rfl rfl (decide_eq_false hlt)) hH ?_
        (try simp only [List.getElem_toArray, List.getElem_cons_zero, List.getElem_cons_succ, Act.put, List.setIfInBounds_toArray, List.set_cons_zero, List.set_cons_succ])
        refine wpAnyH_take (i := 8) (v := .bool false) rfl (by kernel_rfl) (by kernel_rfl) (by kernel_rfl) (fun _ _ _ h => h) (.inl ⟨by rfl, fun _ _ => by kernel_rfl⟩) hH ?_
        (try simp only [List.getElem_toArray, List.getElem_cons_zero, List.getElem_cons_succ, Act.put, List.setIfInBounds_toArray, List.set_cons_zero, List.set_cons_succ])
        refine wpAnyH_take (i := 9) (v := undef) rfl (by kernel_rfl) (by kernel_rfl) (by kernel_rfl) (fun _ _ _ h => h) (.inr ⟨by rfl, by rfl⟩) hH ?_
        (try simp only [List.getElem_toArray, List.getElem_cons_zero, List.getElem_cons_succ, Act.put, List.setIfInBounds_toArray, List.set_cons_zero, List.set_cons_succ])
        refine wpAnyH_take (i := 10) (v := undef) rfl (by kernel_rfl) (by kernel_rfl) (by kernel_rfl) (fun _ _ _ h => h) (.inr ⟨by rfl, by rfl⟩) hH ?_
        (try simp only [List.getElem_toArray, List.getElem_cons_zero, List.getElem_cons_succ, Act.put, List.setIfInBounds_toArray, List.set_cons_zero, List.set_cons_succ])
        refine wpAnyH_take (i := 11) (v := .bool false) rfl (by kernel_rfl) (by kernel_rfl) (by kernel_rfl) (fun _ _ _ h => h) (.inl ⟨by rfl, fun _ _ => by kernel_rfl⟩) hH ?_
        (try simp only [List.getElem_toArray, List.getElem_cons_zero, List.getElem_cons_succ, Act.put, List.setIfInBounds_toArray, List.set_cons_zero, List.set_cons_succ])
        refine wpAnyH_done (by kernel_rfl) ?_ _
        have HS := Lib.hid hH
        clear hH
        have LP := plane_loadL HS.out.pl
        have SR := row_store HS.out.res #[.slice A n c, .int .i64 (en : Nat), .int .i64 (tp : Nat)] rfl planeT (by simp [Value.oneCell'])
        obtain ⟨V, hV⟩ : ∃ x, W.setCells w.heap.size 0 #[.slice A n c, .int .i64 (en : Nat), .int .i64 (tp : Nat)].toList = x := ⟨_, rfl⟩
        have HKV : Hid (Blk V w.heap.size 24 #[.slice A n c, .int .i64 (en : Nat), .int .i64 (tp : Nat)]) := by show Blk _ _ _ _; rw [← hV]; exact HS.out.res.put _ rfl
        have HTV : Hid (Tch (fun k => k = w.heap.size) W V) := by show Tch _ _ _; rw [← hV]; exact Tch.setCells (S := fun k => k = w.heap.size) rfl _ _ _ (Tch.refl _ _)
        rw [hV] at SR
        clear hV
        go_wp2_with (first
          | ((with_reducible refine wpList_loadE (op := ⟨some 52, _, _, _, _, _⟩) LP ?leX ?leG ?leO ?leE ?_); (case leO => exact rfl); (case leE => exact rfl); (case leG => exact rfl))
          | refine wpList_storeE SR _ _ rfl rfl rfl rfl ?_)
        have hlt9 := HS.out.lt
        have hln9 := HS.out.ln
        have ho9 := ownsRow_tchJ HS.out.own HTV.out fun k h => by have := (HS.out.own.lt k h).1; omega
        refine bodyPost_ret (v := .agg #[.slice A n c, .int .i64 (en : Nat), .int .i64 (tp : Nat)]) ?_ rfl ⟨A, n, c, ds, nn, rfl, HS.out.rr.tch HTV.out (by omega) (by omega), HS.out.tch.trans HTV.out fun k h => .inr (by omega), pgs_of ho9 HS.out.len (by omega) (fun k h1 h2 => ⟨by omega, h2⟩) (fun d hd => ((HS.out.nds d hd).tch HTV.out fun k hk => ⟨hk.2.1, by omega⟩).mono fun k hk => by have := HTV.out.size; omega), HDS.out⟩
        exact results_cell_row Try.results28 _ _ w.heap.size 24 _ (0, 0) _ rfl HKV.out Try.underlying24 rfl planeT
      · have hlt : (n : Int) < (nn : Int) := by omega
        by_cases he : s'.e = 0
        · have hvb : (s'.e == 0) = true := by simpa using he
          obtain ⟨k, rfl⟩ : ∃ j, gk = j + 1 := ⟨gk - 1, by omega⟩
          obtain ⟨sd, dx, ed⟩ : ∃ a b, nodR lk nn s' = (a, b) := ⟨_, _, rfl⟩
          have hv2 : Hid (ndsR lk nn k sd (ds.map ND.norm ++ [dx]) = (s7, nsx)) := by
            have := hv.out
            rw [ndsR, if_pos he, ed] at this
            exact this
          have ED := Lib.hid ed
          clear hv ed
          go_upto_region 6 with fail
          refine wp_region_held_drew (S := fun W' => PlS w P g q lk nn en tp s' ds W' A n c) (by kernel_rfl) hWD (fun hH => ?_)
          obtain ⟨W, hW⟩ : ∃ x, wr.drew = x := ⟨_, rfl⟩
          rw [hW] at hH ⊢
          clear hW hWD hn
          refine wpAnyH_take (i := 0) (v := .pointer (some ⟨P, 0, none⟩)) rfl (by kernel_rfl) (by kernel_rfl) (by kernel_rfl) (fun _ _ _ h => h) (.inl ⟨by rfl, fun _ _ => by kernel_rfl⟩) hH ?_
          (try simp only [List.getElem_toArray, List.getElem_cons_zero, Act.put, List.setIfInBounds_toArray, List.set_cons_zero, List.set_cons_succ])
          refine wpAnyH_take (i := 1) (v := .slice A n c) rfl (by kernel_rfl) (by kernel_rfl) (by kernel_rfl) (fun _ _ _ h => h) (yieldsIf_loadP (by rfl) _ rfl rfl (fun _ q => load_nodes ((q.pl.cell 0).trans rfl))) hH ?_
          (try simp only [List.getElem_toArray, List.getElem_cons_zero, List.getElem_cons_succ, Act.put, List.setIfInBounds_toArray, List.set_cons_zero, List.set_cons_succ])
          refine wpAnyH_take (i := 2) (v := .int .i64 (n : Nat)) rfl (by kernel_rfl) (by kernel_rfl) (by kernel_rfl) (fun _ _ _ h => h) (.inl ⟨by rfl, fun _ _ => by kernel_rfl⟩) hH ?_
          (try simp only [List.getElem_toArray, List.getElem_cons_zero, List.getElem_cons_succ, Act.put, List.setIfInBounds_toArray, List.set_cons_zero, List.set_cons_succ])
          refine wpAnyH_take (i := 3) (v := .pointer (some ⟨g, 0, none⟩)) rfl (by kernel_rfl) (by kernel_rfl) (by kernel_rfl) (fun _ _ _ h => h) (.inl ⟨by rfl, fun _ _ => by kernel_rfl⟩) hH ?_
          (try simp only [List.getElem_toArray, List.getElem_cons_zero, List.getElem_cons_succ, Act.put, List.setIfInBounds_toArray, List.set_cons_zero, List.set_cons_succ])
          refine wpAnyH_take (i := 4) (v := .pointer (some ⟨g, 0, none⟩)) rfl (by kernel_rfl) (by kernel_rfl) (by kernel_rfl) (fun _ _ _ h => h) (.inl ⟨by rfl, fun _ _ => by kernel_rfl⟩) hH ?_
          (try simp only [List.getElem_toArray, List.getElem_cons_zero, List.getElem_cons_succ, Act.put, List.setIfInBounds_toArray, List.set_cons_zero, List.set_cons_succ])
          refine wpAnyH_take (i := 5) (v := .pointer (some ⟨g, 3, none⟩)) rfl (by kernel_rfl) (by kernel_rfl) (by kernel_rfl) (fun _ _ _ h => h) (.inl ⟨by rfl, fun _ _ => by kernel_rfl⟩) hH ?_
          (try simp only [List.getElem_toArray, List.getElem_cons_zero, List.getElem_cons_succ, Act.put, List.setIfInBounds_toArray, List.set_cons_zero, List.set_cons_succ])
          refine wpAnyH_take (i := 6) (v := .int .i64 (nn : Nat)) rfl (by kernel_rfl) (by kernel_rfl) (by kernel_rfl) (fun _ _ _ h => h) (yieldsIf_loadP (by rfl) _ rfl rfl (fun _ q => load_i64 q.rr.nodes)) hH ?_
          (try simp only [List.getElem_toArray, List.getElem_cons_zero, List.getElem_cons_succ, Act.put, List.setIfInBounds_toArray, List.set_cons_zero, List.set_cons_succ])
          refine wpAnyH_take (i := 7) (v := .bool true) rfl (by kernel_rfl) (by kernel_rfl) (by kernel_rfl) (fun _ _ _ h => h) (yieldsIf_lssR (by rfl) _ _ rfl rfl rfl (decide_eq_true hlt)) hH ?_
          (try simp only [List.getElem_toArray, List.getElem_cons_zero, List.getElem_cons_succ, Act.put, List.setIfInBounds_toArray, List.set_cons_zero, List.set_cons_succ])
          refine wpAnyH_take (i := 8) (v := .bool true) rfl (by kernel_rfl) (by kernel_rfl) (by kernel_rfl) (fun _ _ _ h => h) (.inl ⟨by rfl, fun _ _ => by kernel_rfl⟩) hH ?_
          (try simp only [List.getElem_toArray, List.getElem_cons_zero, List.getElem_cons_succ, Act.put, List.setIfInBounds_toArray, List.set_cons_zero, List.set_cons_succ])
          refine wpAnyH_take (i := 9) (v := .pointer (some ⟨g, 0, none⟩)) rfl (by kernel_rfl) (by kernel_rfl) (by kernel_rfl) (fun _ _ _ h => h) (.inl ⟨by rfl, fun _ _ => by kernel_rfl⟩) hH ?_
          (try simp only [List.getElem_toArray, List.getElem_cons_zero, List.getElem_cons_succ, Act.put, List.setIfInBounds_toArray, List.set_cons_zero, List.set_cons_succ])
          refine wpAnyH_call 10 48 #[.pointer (some ⟨g, 0, none⟩)] _ (by kernel_rfl) (by rfl) (by kernel_rfl) (by kernel_rfl) (rr_fine hH.rr) ?_
          rintro e wf ⟨rfl, rfl⟩
          rw [hvb]
          refine ⟨_, rfl, hH, ?_⟩
          (try simp only [List.getElem_toArray, List.getElem_cons_zero, List.getElem_cons_succ, Act.put, List.setIfInBounds_toArray, List.set_cons_zero, List.set_cons_succ])
          refine wpAnyH_take (i := 11) (v := .bool true) rfl (by kernel_rfl) (by kernel_rfl) (by kernel_rfl) (fun _ _ _ h => h) (.inl ⟨by rfl, fun _ _ => by kernel_rfl⟩) hH ?_
          (try simp only [List.getElem_toArray, List.getElem_cons_zero, List.getElem_cons_succ, Act.put, List.setIfInBounds_toArray, List.set_cons_zero, List.set_cons_succ])
          refine wpAnyH_done (by kernel_rfl) ?_ _
          have HS := Lib.hid hH
          clear hH
          go_upto_region 7 with fail
          refine wp_region_held_drew (S := fun _ => True) (by kernel_rfl) trivial (fun hH => ?_)
          obtain ⟨W2, hW⟩ : ∃ x, W.drew = x := ⟨_, rfl⟩
          have HS2 : Hid (PlS w P g q lk nn en tp s' ds W2 A n c) := by show PlS _ _ _ _ _ _ _ _ _ _ _ _ _ _; rw [← hW]; exact HS.out.drew
          rw [hW]
          clear hW HS hH
          refine wpAnyH_take (i := 0) (v := .pointer (some ⟨P, 0, none⟩)) rfl (by kernel_rfl) (by kernel_rfl) (by kernel_rfl) (fun _ _ _ h => h) (.inl ⟨by rfl, fun _ _ => by kernel_rfl⟩) trivial ?_
          (try simp only [List.getElem_toArray, List.getElem_cons_zero, Act.put, List.setIfInBounds_toArray, List.set_cons_zero, List.set_cons_succ])
          refine wpAnyH_take (i := 2) (v := .pointer (some ⟨g, 0, none⟩)) rfl (by kernel_rfl) (by kernel_rfl) (by kernel_rfl) (fun _ _ _ h => h) (.inl ⟨by rfl, fun _ _ => by kernel_rfl⟩) trivial ?_
          (try simp only [List.getElem_toArray, List.getElem_cons_zero, List.getElem_cons_succ, Act.put, List.setIfInBounds_toArray, List.set_cons_zero, List.set_cons_succ])
          refine wpAnyH_all (rs := [1, 3]) (by kernel_rfl) (by simp) (fun i hi => ?_)
          rcases (by simpa using hi : i = 1 ∨ i = 3) with rfl | rfl
          · refine wpOp_value (w' := W2) (.slice A n c) (by rfl) (by kernel_rfl) (exec_load (by rfl) (by rfl) (load_nodes ((HS2.out.pl.cell 0).trans rfl))) ⟨trivial, ?_⟩
            (try simp only [List.getElem_toArray, List.getElem_cons_zero, List.getElem_cons_succ, Act.put, List.setIfInBounds_toArray, List.set_cons_zero, List.set_cons_succ])
            refine wpAnyH_call 3 50 #[.pointer (some ⟨g, 0, none⟩)] _ (by kernel_rfl) (by rfl) (by kernel_rfl) (by kernel_rfl) (rr_node HS2.out.rr HNN.out.2.2 HNN.out.1 HNN.out.2.1) ?_
            rintro e w8 ⟨d, rfl, h2r, h2t, h2d, h2n⟩
            rw [ED.out] at h2r h2n
            have HS8 := Lib.hid (HS2.out.num h2r h2t)
            have HD8 := Lib.hid h2d
            have HN8 := Lib.hid h2n
            have HB8 := Lib.hid h2t.size
            clear h2r h2t h2d h2n
            refine ⟨_, rfl, trivial, ?_⟩
            (try simp only [List.getElem_toArray, List.getElem_cons_zero, List.getElem_cons_succ, Act.put, List.setIfInBounds_toArray, List.set_cons_zero, List.set_cons_succ])
            refine wpAnyH_make 4 (.slice (some ⟨w8.heap.size, 0, none⟩) 1 1) (w' := w8.alloc (.cells d.cells 42)) (by kernel_rfl) (by rfl) (by kernel_rfl) (exec_nodeL (d := d) (by rfl) (by kernel_rfl) w8) trivial ?_
            (try simp only [List.getElem_toArray, List.getElem_cons_zero, List.getElem_cons_succ, Act.put, List.setIfInBounds_toArray, List.set_cons_zero, List.set_cons_succ])
            refine wpAnyH_pushJ 5 (by kernel_rfl) (by rfl) (.tmp 46) (.tmp 49) 22 42 7 88 _ rfl Try.underlying22 info_node rfl (by decide) w8 (P + 1) (.slice A n c) n (flat ds) d.cells rfl (by kernel_rfl) rfl HS8.out.own rfl rfl (ndL_one d) (by omega) (by decide) HS8.out.sz ?_
            intro b c2 W5 ho hgr hb5 hat
            have HP := HS8.out.push (d := d) (B4 := W2.heap.size) (fun k hk => (HS2.out.own.lt k hk).2) HS2.out.sz HD8.out hgr hat ho
            have hq5 := HS8.out.pl.tch (grownBy_tchJ hgr) (fun h => by have := (HS8.out.own.lt _ h.symm).1; omega)
            have SR := store_nodesL (A := some ⟨b, 0, none⟩) (n := n + 1) (c := c2) ((hq5.cell 0).trans rfl) (hq5.frozen 0)
            obtain ⟨V, hV⟩ : ∃ V, W5.setCell ⟨P, 0, none⟩ (.slice (some ⟨b, 0, none⟩) (n + 1) c2) = V := ⟨_, rfl⟩
            rw [hV] at SR HP
            replace HP := Lib.hid HP
            clear hV ho hgr hb5 hat hq5
            refine ⟨trivial, ?_⟩
            (try simp only [List.getElem_toArray, List.getElem_cons_zero, List.getElem_cons_succ, Act.put, List.setIfInBounds_toArray, List.set_cons_zero, List.set_cons_succ])
            refine wpAnyH_take (i := 6) (v := .pointer (some ⟨P, 0, none⟩)) rfl (by kernel_rfl) (by kernel_rfl) (by kernel_rfl) (fun _ _ _ h => h) (.inl ⟨by rfl, fun _ _ => by kernel_rfl⟩) trivial ?_
            (try simp only [List.getElem_toArray, List.getElem_cons_zero, List.getElem_cons_succ, Act.put, List.setIfInBounds_toArray, List.set_cons_zero, List.set_cons_succ])
            refine wpAnyH_store 7 _ _ _ (by kernel_rfl) (by rfl) (by kernel_rfl) (by rfl) (by rfl) (by rfl) SR trivial ?_
            (try simp only [List.getElem_toArray, List.getElem_cons_zero, List.getElem_cons_succ, Act.put])
            refine wpAnyH_done (by kernel_rfl) ?_ _
            clear SR HS2 HS8 HB8
            go_wp2_with fail
            go_roundg k
            case rel => exact ⟨sd, _, _, n + 1, _, by omega, HP, by
              show ndsR _ _ _ _ _ = _
              rw [List.map_append, List.map_singleton, HN8.out]
              exact hv2.out⟩
            case measure => omega
          · refine wpOp_call 50 #[.pointer (some ⟨g, 0, none⟩)] _ (by rfl) (by kernel_rfl) (by kernel_rfl) (rr_node HS2.out.rr HNN.out.2.2 HNN.out.1 HNN.out.2.1) ?_
            rintro e w8 ⟨d, rfl, h2r, h2t, h2d, h2n⟩
            rw [ED.out] at h2r h2n
            have HS8 := Lib.hid (HS2.out.num h2r h2t)
            have HD8 := Lib.hid h2d
            have HN8 := Lib.hid h2n
            have HB8 := Lib.hid h2t.size
            clear h2r h2t h2d h2n
            refine ⟨_, rfl, trivial, ?_⟩
            (try simp only [List.getElem_toArray, List.getElem_cons_zero, List.getElem_cons_succ, Act.put, List.setIfInBounds_toArray, List.set_cons_zero, List.set_cons_succ])
            refine wpAnyH_all (rs := [1, 4]) (by kernel_rfl) (by simp) (fun i hi => ?_)
            rcases (by simpa using hi : i = 1 ∨ i = 4) with rfl | rfl
            · refine wpOp_value (w' := w8) (.slice A n c) (by rfl) (by kernel_rfl) (exec_load (by rfl) (by rfl) (load_nodes ((HS8.out.pl.cell 0).trans rfl))) ⟨trivial, ?_⟩
              (try simp only [List.getElem_toArray, List.getElem_cons_zero, List.getElem_cons_succ, Act.put, List.setIfInBounds_toArray, List.set_cons_zero, List.set_cons_succ])
              refine wpAnyH_make 4 (.slice (some ⟨w8.heap.size, 0, none⟩) 1 1) (w' := w8.alloc (.cells d.cells 42)) (by kernel_rfl) (by rfl) (by kernel_rfl) (exec_nodeL (d := d) (by rfl) (by kernel_rfl) w8) trivial ?_
              (try simp only [List.getElem_toArray, List.getElem_cons_zero, List.getElem_cons_succ, Act.put, List.setIfInBounds_toArray, List.set_cons_zero, List.set_cons_succ])
              refine wpAnyH_pushJ 5 (by kernel_rfl) (by rfl) (.tmp 46) (.tmp 49) 22 42 7 88 _ rfl Try.underlying22 info_node rfl (by decide) w8 (P + 1) (.slice A n c) n (flat ds) d.cells rfl (by kernel_rfl) rfl HS8.out.own rfl rfl (ndL_one d) (by omega) (by decide) HS8.out.sz ?_
              intro b c2 W5 ho hgr hb5 hat
              have HP := HS8.out.push (d := d) (B4 := W2.heap.size) (fun k hk => (HS2.out.own.lt k hk).2) HS2.out.sz HD8.out hgr hat ho
              have hq5 := HS8.out.pl.tch (grownBy_tchJ hgr) (fun h => by have := (HS8.out.own.lt _ h.symm).1; omega)
              have SR := store_nodesL (A := some ⟨b, 0, none⟩) (n := n + 1) (c := c2) ((hq5.cell 0).trans rfl) (hq5.frozen 0)
              obtain ⟨V, hV⟩ : ∃ V, W5.setCell ⟨P, 0, none⟩ (.slice (some ⟨b, 0, none⟩) (n + 1) c2) = V := ⟨_, rfl⟩
              rw [hV] at SR HP
              replace HP := Lib.hid HP
              clear hV ho hgr hb5 hat hq5
              refine ⟨trivial, ?_⟩
              (try simp only [List.getElem_toArray, List.getElem_cons_zero, List.getElem_cons_succ, Act.put, List.setIfInBounds_toArray, List.set_cons_zero, List.set_cons_succ])
              refine wpAnyH_take (i := 6) (v := .pointer (some ⟨P, 0, none⟩)) rfl (by kernel_rfl) (by kernel_rfl) (by kernel_rfl) (fun _ _ _ h => h) (.inl ⟨by rfl, fun _ _ => by kernel_rfl⟩) trivial ?_
              (try simp only [List.getElem_toArray, List.getElem_cons_zero, List.getElem_cons_succ, Act.put, List.setIfInBounds_toArray, List.set_cons_zero, List.set_cons_succ])
              refine wpAnyH_store 7 _ _ _ (by kernel_rfl) (by rfl) (by kernel_rfl) (by rfl) (by rfl) (by rfl) SR trivial ?_
              (try simp only [List.getElem_toArray, List.getElem_cons_zero, List.getElem_cons_succ, Act.put])
              refine wpAnyH_done (by kernel_rfl) ?_ _
              clear SR HS2 HS8 HB8
              go_wp2_with fail
              go_roundg k
              case rel => exact ⟨sd, _, _, n + 1, _, by omega, HP, by
                show ndsR _ _ _ _ _ = _
                rw [List.map_append, List.map_singleton, HN8.out]
                exact hv2.out⟩
              case measure => omega
            · refine wpOp_value (w' := w8.alloc (.cells d.cells 42)) (.slice (some ⟨w8.heap.size, 0, none⟩) 1 1) (by rfl) (by kernel_rfl) (exec_nodeL (d := d) (by rfl) (by kernel_rfl) w8) ⟨trivial, ?_⟩
              (try simp only [List.getElem_toArray, List.getElem_cons_zero, List.getElem_cons_succ, Act.put, List.setIfInBounds_toArray, List.set_cons_zero, List.set_cons_succ])
              refine wpAnyH_value 1 (.slice A n c) (by kernel_rfl) (by rfl) (by kernel_rfl) (exec_load (by rfl) (by rfl) (load_nodes (((HS8.out.pl.alloc _).cell 0).trans rfl))) trivial ?_
              (try simp only [List.getElem_toArray, List.getElem_cons_zero, List.getElem_cons_succ, Act.put, List.setIfInBounds_toArray, List.set_cons_zero, List.set_cons_succ])
              refine wpAnyH_pushJ 5 (by kernel_rfl) (by rfl) (.tmp 46) (.tmp 49) 22 42 7 88 _ rfl Try.underlying22 info_node rfl (by decide) w8 (P + 1) (.slice A n c) n (flat ds) d.cells rfl (by kernel_rfl) rfl HS8.out.own rfl rfl (ndL_one d) (by omega) (by decide) HS8.out.sz ?_
              intro b c2 W5 ho hgr hb5 hat
              have HP := HS8.out.push (d := d) (B4 := W2.heap.size) (fun k hk => (HS2.out.own.lt k hk).2) HS2.out.sz HD8.out hgr hat ho
              have hq5 := HS8.out.pl.tch (grownBy_tchJ hgr) (fun h => by have := (HS8.out.own.lt _ h.symm).1; omega)
              have SR := store_nodesL (A := some ⟨b, 0, none⟩) (n := n + 1) (c := c2) ((hq5.cell 0).trans rfl) (hq5.frozen 0)
              obtain ⟨V, hV⟩ : ∃ V, W5.setCell ⟨P, 0, none⟩ (.slice (some ⟨b, 0, none⟩) (n + 1) c2) = V := ⟨_, rfl⟩
              rw [hV] at SR HP
              replace HP := Lib.hid HP
              clear hV ho hgr hb5 hat hq5
              refine ⟨trivial, ?_⟩
              (try simp only [List.getElem_toArray, List.getElem_cons_zero, List.getElem_cons_succ, Act.put, List.setIfInBounds_toArray, List.set_cons_zero, List.set_cons_succ])
              refine wpAnyH_take (i := 6) (v := .pointer (some ⟨P, 0, none⟩)) rfl (by kernel_rfl) (by kernel_rfl) (by kernel_rfl) (fun _ _ _ h => h) (.inl ⟨by rfl, fun _ _ => by kernel_rfl⟩) trivial ?_
              (try simp only [List.getElem_toArray, List.getElem_cons_zero, List.getElem_cons_succ, Act.put, List.setIfInBounds_toArray, List.set_cons_zero, List.set_cons_succ])
              refine wpAnyH_store 7 _ _ _ (by kernel_rfl) (by rfl) (by kernel_rfl) (by rfl) (by rfl) (by rfl) SR trivial ?_
              (try simp only [List.getElem_toArray, List.getElem_cons_zero, List.getElem_cons_succ, Act.put])
              refine wpAnyH_done (by kernel_rfl) ?_ _
              clear SR HS2 HS8 HB8
              go_wp2_with fail
              go_roundg k
              case rel => exact ⟨sd, _, _, n + 1, _, by omega, HP, by
                show ndsR _ _ _ _ _ = _
                rw [List.map_append, List.map_singleton, HN8.out]
                exact hv2.out⟩
              case measure => omega
        · obtain ⟨rfl, hds⟩ := ndsR_stop hv.out (.inr he)
          have hvb : (s'.e == 0) = false := by simpa using he
          have HDS := Lib.hid hds
          clear hv hds
          go_upto_region 6 with fail
          refine wp_region_held_drew (S := fun W' => PlS w P g q lk nn en tp s' ds W' A n c) (by kernel_rfl) hWD (fun hH => ?_)
          obtain ⟨W, hW⟩ : ∃ x, wr.drew = x := ⟨_, rfl⟩
          rw [hW] at hH ⊢
          clear hW hWD hn
          refine wpAnyH_take (i := 0) (v := .pointer (some ⟨P, 0, none⟩)) rfl (by kernel_rfl) (by kernel_rfl) (by kernel_rfl) (fun _ _ _ h => h) (.inl ⟨by rfl, fun _ _ => by kernel_rfl⟩) hH ?_
          (try simp only [List.getElem_toArray, List.getElem_cons_zero, Act.put, List.setIfInBounds_toArray, List.set_cons_zero, List.set_cons_succ])
          refine wpAnyH_take (i := 1) (v := .slice A n c) rfl (by kernel_rfl) (by kernel_rfl) (by kernel_rfl) (fun _ _ _ h => h) (yieldsIf_loadP (by rfl) _ rfl rfl (fun _ q => load_nodes ((q.pl.cell 0).trans rfl))) hH ?_
          (try simp only [List.getElem_toArray, List.getElem_cons_zero, List.getElem_cons_succ, Act.put, List.setIfInBounds_toArray, List.set_cons_zero, List.set_cons_succ])
          refine wpAnyH_take (i := 2) (v := .int .i64 (n : Nat)) rfl (by kernel_rfl) (by kernel_rfl) (by kernel_rfl) (fun _ _ _ h => h) (.inl ⟨by rfl, fun _ _ => by kernel_rfl⟩) hH ?_
          (try simp only [List.getElem_toArray, List.getElem_cons_zero, List.getElem_cons_succ, Act.put, List.setIfInBounds_toArray, List.set_cons_zero, List.set_cons_succ])
          refine wpAnyH_take (i := 3) (v := .pointer (some ⟨g, 0, none⟩)) rfl (by kernel_rfl) (by kernel_rfl) (by kernel_rfl) (fun _ _ _ h => h) (.inl ⟨by rfl, fun _ _ => by kernel_rfl⟩) hH ?_
          (try simp only [List.getElem_toArray, List.getElem_cons_zero, List.getElem_cons_succ, Act.put, List.setIfInBounds_toArray, List.set_cons_zero, List.set_cons_succ])
          refine wpAnyH_take (i := 4) (v := .pointer (some ⟨g, 0, none⟩)) rfl (by kernel_rfl) (by kernel_rfl) (by kernel_rfl) (fun _ _ _ h => h) (.inl ⟨by rfl, fun _ _ => by kernel_rfl⟩) hH ?_
          (try simp only [List.getElem_toArray, List.getElem_cons_zero, List.getElem_cons_succ, Act.put, List.setIfInBounds_toArray, List.set_cons_zero, List.set_cons_succ])
          refine wpAnyH_take (i := 5) (v := .pointer (some ⟨g, 3, none⟩)) rfl (by kernel_rfl) (by kernel_rfl) (by kernel_rfl) (fun _ _ _ h => h) (.inl ⟨by rfl, fun _ _ => by kernel_rfl⟩) hH ?_
          (try simp only [List.getElem_toArray, List.getElem_cons_zero, List.getElem_cons_succ, Act.put, List.setIfInBounds_toArray, List.set_cons_zero, List.set_cons_succ])
          refine wpAnyH_take (i := 6) (v := .int .i64 (nn : Nat)) rfl (by kernel_rfl) (by kernel_rfl) (by kernel_rfl) (fun _ _ _ h => h) (yieldsIf_loadP (by rfl) _ rfl rfl (fun _ q => load_i64 q.rr.nodes)) hH ?_
          (try simp only [List.getElem_toArray, List.getElem_cons_zero, List.getElem_cons_succ, Act.put, List.setIfInBounds_toArray, List.set_cons_zero, List.set_cons_succ])
          refine wpAnyH_take (i := 7) (v := .bool true) rfl (by kernel_rfl) (by kernel_rfl) (by kernel_rfl) (fun _ _ _ h => h) (yieldsIf_lssR (by rfl) _ _ rfl rfl rfl (decide_eq_true hlt)) hH ?_
          (try simp only [List.getElem_toArray, List.getElem_cons_zero, List.getElem_cons_succ, Act.put, List.setIfInBounds_toArray, List.set_cons_zero, List.set_cons_succ])
          refine wpAnyH_take (i := 8) (v := .bool true) rfl (by kernel_rfl) (by kernel_rfl) (by kernel_rfl) (fun _ _ _ h => h) (.inl ⟨by rfl, fun _ _ => by kernel_rfl⟩) hH ?_
          (try simp only [List.getElem_toArray, List.getElem_cons_zero, List.getElem_cons_succ, Act.put, List.setIfInBounds_toArray, List.set_cons_zero, List.set_cons_succ])
          refine wpAnyH_take (i := 9) (v := .pointer (some ⟨g, 0, none⟩)) rfl (by kernel_rfl) (by kernel_rfl) (by kernel_rfl) (fun _ _ _ h => h) (.inl ⟨by rfl, fun _ _ => by kernel_rfl⟩) hH ?_
          (try simp only [List.getElem_toArray, List.getElem_cons_zero, List.getElem_cons_succ, Act.put, List.setIfInBounds_toArray, List.set_cons_zero, List.set_cons_succ])
          refine wpAnyH_call 10 48 #[.pointer (some ⟨g, 0, none⟩)] _ (by kernel_rfl) (by rfl) (by kernel_rfl) (by kernel_rfl) (rr_fine hH.rr) ?_
          rintro e wf ⟨rfl, rfl⟩
          rw [hvb]
          refine ⟨_, rfl, hH, ?_⟩
          (try simp only [List.getElem_toArray, List.getElem_cons_zero, List.getElem_cons_succ, Act.put, List.setIfInBounds_toArray, List.set_cons_zero, List.set_cons_succ])
          refine wpAnyH_take (i := 11) (v := .bool false) rfl (by kernel_rfl) (by kernel_rfl) (by kernel_rfl) (fun _ _ _ h => h) (.inl ⟨by rfl, fun _ _ => by kernel_rfl⟩) hH ?_
          (try simp only [List.getElem_toArray, List.getElem_cons_zero, List.getElem_cons_succ, Act.put, List.setIfInBounds_toArray, List.set_cons_zero, List.set_cons_succ])
          refine wpAnyH_done (by kernel_rfl) ?_ _
          have HS := Lib.hid hH
          clear hH
          have LP := plane_loadL HS.out.pl
          have SR := row_store HS.out.res #[.slice A n c, .int .i64 (en : Nat), .int .i64 (tp : Nat)] rfl planeT (by simp [Value.oneCell'])
          obtain ⟨V, hV⟩ : ∃ x, W.setCells w.heap.size 0 #[.slice A n c, .int .i64 (en : Nat), .int .i64 (tp : Nat)].toList = x := ⟨_, rfl⟩
          have HKV : Hid (Blk V w.heap.size 24 #[.slice A n c, .int .i64 (en : Nat), .int .i64 (tp : Nat)]) := by show Blk _ _ _ _; rw [← hV]; exact HS.out.res.put _ rfl
          have HTV : Hid (Tch (fun k => k = w.heap.size) W V) := by show Tch _ _ _; rw [← hV]; exact Tch.setCells (S := fun k => k = w.heap.size) rfl _ _ _ (Tch.refl _ _)
          rw [hV] at SR
          clear hV
          go_wp2_with (first
            | ((with_reducible refine wpList_loadE (op := ⟨some 52, _, _, _, _, _⟩) LP ?leX ?leG ?leO ?leE ?_); (case leO => exact rfl); (case leE => exact rfl); (case leG => exact rfl))
            | refine wpList_storeE SR _ _ rfl rfl rfl rfl ?_)
          have hlt9 := HS.out.lt
          have hln9 := HS.out.ln
          have ho9 := ownsRow_tchJ HS.out.own HTV.out fun k h => by have := (HS.out.own.lt k h).1; omega
          refine bodyPost_ret (v := .agg #[.slice A n c, .int .i64 (en : Nat), .int .i64 (tp : Nat)]) ?_ rfl ⟨A, n, c, ds, nn, rfl, HS.out.rr.tch HTV.out (by omega) (by omega), HS.out.tch.trans HTV.out fun k h => .inr (by omega), pgs_of ho9 HS.out.len (by omega) (fun k h1 h2 => ⟨by omega, h2⟩) (fun d hd => ((HS.out.nds d hd).tch HTV.out fun k hk => ⟨hk.2.1, by omega⟩).mono fun k hk => by have := HTV.out.size; omega), HDS.out⟩
          exact results_cell_row Try.results28 _ _ w.heap.size 24 _ (0, 0) _ rfl HKV.out Try.underlying24 rfl planeT
  · rw [if_neg he]
    have hv : (s2.e == 0) = false := by simpa using he
    clear HPN he
    go_enter Try.func28, Try.ntmps28
    go_upto_region 1 with fail
    (try rw [hw1])
    clear hw1
    go_upto_region 2 with (first
      | (go_at_call 47; (with_reducible refine (rr_take HR1.out 1 32 E1.out (lo' := 1) rfl (hi' := 32) rfl).mono ?_); rintro e w2 ⟨rfl, h2r, h2t⟩; have HR2 := Lib.hid h2r; have HT2 := Lib.hid h2t; clear h2r h2t)
      | (go_at_call 47; (with_reducible refine (rr_take HR2.out 1 4097 E2.out (lo' := 1) rfl (hi' := 4097) rfl).mono ?_); rintro e w3 ⟨rfl, h2r, h2t⟩; have HR3 := Lib.hid h2r; have HT3 := Lib.hid h2t; clear h2r h2t; have c2 := HR3.out.links; have c3 := HR3.out.nodes; have f2 := HR3.out.frozen 2; have f3 := HR3.out.frozen 3))
    obtain ⟨h4r, h4t⟩ := HR3.out.put lk nn
    have HT4 := Lib.hid (((HT1.out.trans HT2.out fun _ h => .inl h).trans HT3.out fun _ h => .inl h).trans h4t fun _ h => .inl h)
    have HK4 := Lib.hid (((HK1.out.tch HT2.out (gq_lt HLT.out (Nat.le_refl _))).tch HT3.out (gq_lt HLT.out (Nat.le_refl _))).tch h4t (gq_lt HLT.out (Nat.le_refl _)))
    obtain ⟨w4, hw4⟩ : ∃ x, (w3.setCell ⟨g, 2, none⟩ (.int .i64 (lk : Nat))).setCell ⟨g, 3, none⟩ (.int .i64 (nn : Nat)) = x := ⟨_, rfl⟩
    rw [hw4] at h4r HT4 HK4
    rw [hw4]
    have HR4 := Lib.hid h4r
    clear hw4 h4r h4t c2 c3 f2 f3 HR1 HR2 HR3 HT1 HT2 HT3 HK1 E1 E2
    have HF := Lib.hid (rr_fine HR4.out)
    rw [hv] at HF
    have SR := row_store HK4.out #[.slice none 0 0, .int .i64 0, .int .i64 0] rfl planeT (by simp [Value.oneCell'])
    obtain ⟨w5, hw5⟩ : ∃ x, w4.setCells w.heap.size 0 #[.slice none 0 0, .int .i64 0, .int .i64 0].toList = x := ⟨_, rfl⟩
    have HK5 : Hid (Blk w5 w.heap.size 24 #[.slice none 0 0, .int .i64 0, .int .i64 0]) := by show Blk _ _ _ _; rw [← hw5]; exact HK4.out.put _ rfl
    have HT5 : Hid (Tch (fun k => k = w.heap.size) w4 w5) := by show Tch _ _ _; rw [← hw5]; exact Tch.setCells (S := fun k => k = w.heap.size) rfl _ _ _ (Tch.refl _ _)
    rw [hw5] at SR
    clear hw5
    go_wp2_with (first
      | (go_at_call 48; (with_reducible refine HF.out.mono ?_); rintro e wf ⟨rfl, rfl⟩)
      | refine wpList_storeE SR _ _ rfl rfl rfl rfl ?_)
    refine bodyPost_ret (v := .agg (pgL none 0 0 0 0)) ?_ rfl ⟨none, 0, 0, [], nn, rfl, HR4.out.tch HT5.out (by have := HLT.out; omega) (by have := HLT.out; omega), HT4.out.trans HT5.out fun k h => .inr (by omega), PgS.nil _ _, rfl⟩
    exact results_cell_row Try.results28 _ _ w.heap.size 24 _ (0, 0) _ rfl HK5.out Try.underlying24 rfl planeT
theorem mk_lit : strOfNums mkL = { data := #[71, 78, 71, 49] } := rfl
set_option maxRecDepth 100000 in
set_option maxHeartbeats 1000000 in
theorem lite_prefix (l : List Int) (hl : 4 ≤ l.length) (b : Bool) (hb : ((strOfNums (l.take 4)).toList == [71, 78, 71, 49]) = b) (w : World) :
    Calls Try.prog 46 #[.string (strOfNums l), .string { data := #[71, 78, 71, 49] }] w fun e w' => e = .returned (.bool b) ∧ w = w' := by
  have hss := strOfNums_size l
  have hex : (strOfNums l).extract 0 4 = strOfNums (l.take 4) := by rw [str_extract]; rfl
  have hpp : ({ data := #[71, 78, 71, 49] } : ByteArray).size = 4 := rfl
  have HB := Lib.hid hb
  have hge : decide ((l.length : Int) ≥ 4) = true := decide_eq_true (by omega)
  clear hb
  go_enter Try.func46, Try.ntmps46
  go_wp2
  go_ret
  exact ⟨by rw [HB.out]; rfl, rfl⟩
theorem mk_list : (strOfNums mkL).toList = [71, 78, 71, 49] := by rw [ByteArray.toList_eq]; rfl
theorem mk_bytes : Bytes mkL := by intro x hx; simp [mkL] at hx; omega
theorem str_prefix (l : List Int) (hl : 4 ≤ l.length) (hb : Bytes l) (w : World) :
    Calls Try.prog 26 #[.string (strOfNums l), .string { data := #[71, 78, 71, 49] }] w fun e w' => e = .returned (.bool (decide (l.take 4 = mkL))) ∧ w = w' := by
  have HL := Lib.hid (fun W => lite_prefix l hl (decide (l.take 4 = mkL)) (by rw [← mk_list]; exact str_toList (l.take 4) mkL (hb.take 4) mk_bytes) W)
  clear hl hb
  go_enter Try.func26, Try.ntmps26
  go_wp2_with (go_at_call 46; (with_reducible refine (HL.out _).mono ?_); rintro e wz ⟨rfl, rfl⟩)
  go_ret
  exact ⟨rfl, rfl⟩
theorem RrS.parts {w : World} {g q : Nat} {lk nn : Int} {s : RS} (h : RrS w g q lk nn s) : ∃ (far : Bool) (why : Int) (l : List Int), w.cell? ⟨g, 0, none⟩ = some (.pointer (some ⟨q, 0, none⟩)) ∧ w.cell? ⟨g, 1, none⟩ = some (.bool far) ∧ RdrAt w q l why ∧ s.e = (if far then 6 else why) ∧ (s.e = 0 → l = s.l) := by
  obtain ⟨far, why, l, h1, h2, _, h4, h5, _⟩ := h
  exact ⟨far, why, l, h1.cell 0, h1.cell 1, h2, h4, h5⟩
theorem box_planeM {w w1 : World} {A : Option Addr} {n c : Nat} {en tp : Int} (h : w.alloc (.cells #[.slice A n c, .int .i64 en, .int .i64 tp] 24) = w1) : Blk w1 w.heap.size 24 (pgL A n c en tp) ∧ Below w.heap.size w w1 := by
  rw [← h]
  exact ⟨Blk.new _ _ _, (Below.refl _ w).alloc (Nat.le_refl _) _⟩
theorem plane_loadM {w : World} {b : Nat} {A : Option Addr} {n c : Nat} {en tp : Int} (h : Blk w b 24 (pgL A n c en tp)) : (Instr.loadAt 24 (.pointer (some ⟨b, 0, none⟩))).run Try.prog w = .ok (.agg (pgL A n c en tp)) w := plane_load h
set_option maxRecDepth 100000 in
set_option maxHeartbeats 1000000 in
theorem rr_why {w : World} {g q : Nat} {lk : Nat} {nn : Int} {s : RS} {A : Option Addr} {n c : Nat} {ds : List ND} {en tp : Int} (h : RrS w g q lk nn s) (hp : PgAt w w.heap.size A n c ds) :
    Calls Try.prog 29 #[.pointer (some ⟨g, 0, none⟩), .agg (pgL A n c en tp)] w (RetE (whyR ⟨s, ds, en, tp, lk⟩) w) := by
  obtain ⟨w1, hw1⟩ : ∃ x, w.alloc (.cells #[.slice A n c, .int .i64 en, .int .i64 tp] 24) = x := ⟨_, rfl⟩
  obtain ⟨k1, b1⟩ := box_planeM hw1
  have h1 := h.below b1
  have HG := Lib.hid ((hp.below b1).more b1.size)
  obtain ⟨far, why, l, c0, c1, hq, he, hl⟩ := h1.parts
  have HQ := Lib.hid hq
  have HW := Lib.hid (rdr_why q l why w1 hq)
  have HLF := Lib.hid (rdr_left q l why w1 hq)
  have HK := Lib.hid k1
  have HB := Lib.hid b1
  have HR := Lib.hid h1
  unfold pgL
  clear hq h hp k1 b1 h1
  cases far with
  | true =>
    have HE : Hid (whyR ⟨s, ds, en, tp, lk⟩ = 6) := by show _ = _; unfold whyR; rw [he]; rfl
    clear he hl
    go_enter Try.func29, Try.ntmps29
    go_upto_region 1 with fail
    (try rw [hw1])
    clear hw1
    go_wp2_with fail
    go_ret
    exact ⟨by rw [HE.out]; rfl, HB.out⟩
  | false =>
    have he' : s.e = why := he
    by_cases hw : why = 0
    · subst hw
      have hl' := hl he'
      subst hl'
      by_cases h0 : s.l.length = 0
      · have HE : Hid (whyR ⟨s, ds, en, tp, lk⟩ = chkW ds lk en tp) := by show _ = _; unfold whyR; rw [he', if_pos rfl, if_pos h0]
        have hz : ¬ ((s.l.length : Nat) : Int) > 0 := by omega
        have HC := Lib.hid (fun W (hb : Below w1.heap.size w1 W) => pl_check A n c ds en tp lk W ((HG.out.below hb).more hb.size))
        clear he he' hl h0
        go_enter Try.func29, Try.ntmps29
        go_upto_region 1 with fail
        (try rw [hw1])
        clear hw1
        go_upto_region 7 with (first
          | (go_at_call 51; (with_reducible refine HW.out.mono ?_); rintro e w3 ⟨rfl, rfl⟩)
          | (go_at_call 52; (with_reducible refine HLF.out.mono ?_); rintro e w3 ⟨rfl, rfl⟩))
        clear HW HLF c0 c1 HQ
        have cl : w1.cell? ⟨g, 2, none⟩ = some (.int .i64 lk) := HR.out.links
        refine wp_region_held_drew (S := fun W => Blk W w.heap.size 24 (pgL A n c en tp) ∧ W.cell? ⟨g, 2, none⟩ = some (.int .i64 lk) ∧ Below w1.heap.size w1 W) (by kernel_rfl) ⟨HK.out.drewN 1, cl, below_drewN (Below.refl _ w1) 1⟩ (fun hH => ?_)
        obtain ⟨W, hW⟩ : ∃ x, w1.drew = x := ⟨_, rfl⟩
        rw [hW] at hH ⊢
        clear hW cl
        refine wpAnyH_take (i := 0) (v := .agg (pgL A n c en tp)) rfl (by kernel_rfl) (by kernel_rfl) (by kernel_rfl) (fun _ _ _ h => h) (yieldsIf_loadP (by rfl) _ rfl rfl (fun _ q => plane_loadM q.1)) hH ?_
        (try simp only [List.getElem_toArray, List.getElem_cons_zero, Act.put, List.setIfInBounds_toArray, List.set_cons_zero, List.set_cons_succ])
        refine wpAnyH_take (i := 1) (v := .pointer (some ⟨g, 0, none⟩)) rfl (by kernel_rfl) (by kernel_rfl) (by kernel_rfl) (fun _ _ _ h => h) (.inl ⟨by rfl, fun _ _ => by kernel_rfl⟩) hH ?_
        (try simp only [List.getElem_toArray, List.getElem_cons_zero, List.getElem_cons_succ, Act.put, List.setIfInBounds_toArray, List.set_cons_zero, List.set_cons_succ])
        refine wpAnyH_take (i := 2) (v := .pointer (some ⟨g, 0, none⟩)) rfl (by kernel_rfl) (by kernel_rfl) (by kernel_rfl) (fun _ _ _ h => h) (.inl ⟨by rfl, fun _ _ => by kernel_rfl⟩) hH ?_
        (try simp only [List.getElem_toArray, List.getElem_cons_zero, List.getElem_cons_succ, Act.put, List.setIfInBounds_toArray, List.set_cons_zero, List.set_cons_succ])
        refine wpAnyH_take (i := 3) (v := .pointer (some ⟨g, 2, none⟩)) rfl (by kernel_rfl) (by kernel_rfl) (by kernel_rfl) (fun _ _ _ h => h) (.inl ⟨by rfl, fun _ _ => by kernel_rfl⟩) hH ?_
        (try simp only [List.getElem_toArray, List.getElem_cons_zero, List.getElem_cons_succ, Act.put, List.setIfInBounds_toArray, List.set_cons_zero, List.set_cons_succ])
        refine wpAnyH_take (i := 4) (v := .int .i64 lk) rfl (by kernel_rfl) (by kernel_rfl) (by kernel_rfl) (fun _ _ _ h => h) (yieldsIf_loadP (by rfl) _ rfl rfl (fun _ q => load_i64 q.2.1)) hH ?_
        (try simp only [List.getElem_toArray, List.getElem_cons_zero, List.getElem_cons_succ, Act.put, List.setIfInBounds_toArray, List.set_cons_zero, List.set_cons_succ])
        refine wpAnyH_call 5 13 #[.agg (pgL A n c en tp), .int .i64 lk] _ (by kernel_rfl) (by rfl) (by kernel_rfl) (by kernel_rfl) (HC.out W hH.2.2) ?_
        rintro e w5 ⟨rfl, hb5⟩
        have HB5 := Lib.hid (hH.2.2.trans (hb5.mono hH.2.2.size))
        have HS5 : Blk w5 w.heap.size 24 (pgL A n c en tp) ∧ w5.cell? ⟨g, 2, none⟩ = some (.int .i64 lk) ∧ Below w1.heap.size w1 w5 := ⟨hH.1.below hb5 hH.1.lt, (hb5.cell (p := ⟨g, 2, none⟩) (block_lt_of_cell hH.2.1)).trans hH.2.1, HB5.out⟩
        refine ⟨_, rfl, HS5, ?_⟩
        (try simp only [List.getElem_toArray, List.getElem_cons_zero, List.getElem_cons_succ, Act.put, List.setIfInBounds_toArray, List.set_cons_zero, List.set_cons_succ])
        clear hH hb5
        refine wpAnyH_take (i := 6) (v := .int .i64 (chkW ds lk en tp)) rfl (by kernel_rfl) (by kernel_rfl) (by kernel_rfl) (fun _ _ _ h => h) (.inl ⟨by rfl, fun _ _ => by kernel_rfl⟩) HS5 ?_
        (try simp only [List.getElem_toArray, List.getElem_cons_zero, List.getElem_cons_succ, Act.put, List.setIfInBounds_toArray, List.set_cons_zero, List.set_cons_succ])
        refine wpAnyH_done (by kernel_rfl) ?_ _
        clear HS5
        go_wp2_with fail
        go_ret
        exact ⟨by rw [HE.out]; rfl, HB.out.trans (HB5.out.mono HB.out.size)⟩
      · have HE : Hid (whyR ⟨s, ds, en, tp, lk⟩ = 9) := by show _ = _; unfold whyR; rw [he', if_pos rfl, if_neg h0]
        have hz : ((s.l.length : Nat) : Int) > 0 := by omega
        clear he he' hl h0
        go_enter Try.func29, Try.ntmps29
        go_upto_region 1 with fail
        (try rw [hw1])
        clear hw1
        go_wp2_with (first
          | (go_at_call 51; (with_reducible refine HW.out.mono ?_); rintro e w3 ⟨rfl, rfl⟩)
          | (go_at_call 52; (with_reducible refine HLF.out.mono ?_); rintro e w3 ⟨rfl, rfl⟩))
        go_ret
        exact ⟨by rw [HE.out]; rfl, HB.out⟩
    · have HE : Hid (whyR ⟨s, ds, en, tp, lk⟩ = why) := by show _ = _; unfold whyR; rw [he', if_neg hw]
      have hz : (why != 0) = true := by simpa using hw
      clear he he' hl
      go_enter Try.func29, Try.ntmps29
      go_upto_region 1 with fail
      (try rw [hw1])
      clear hw1
      go_wp2_with (go_at_call 51; (with_reducible refine HW.out.mono ?_); rintro e w3 ⟨rfl, rfl⟩)
      go_ret
      exact ⟨by rw [HE.out]; rfl, HB.out⟩
theorem yieldsIf_subM {P : Program} {ops : Array Oper} {S : World → Prop} {o : Oper} {a : Act} {t t' : TypeId} {m n r : Int} (hw : Region.wanted o (yielded ops a.tmps) = true) (x y : Operand) (ho : o.op = .binOp .sub t x y t') (hx : a.eval x = .int .i64 m) (hy : a.eval y = .int .i64 n) (hr : IntKind.i64.wrap (m - n) = r) : YieldsIf P ops S o (.int .i64 r) a := by
  refine .inl ⟨hw, fun w _ => ?_⟩
  unfold execOp
  simp only [ho, hx, hy]
  simp [go_sem, ← hr]
theorem yieldsIf_frontM {ops : Array Oper} {S : World → Prop} {o : Oper} {a : Act} {l : List Int} {k : Nat} (hw : Region.wanted o (yielded ops a.tmps) = true) (x y : Operand) (ho : o.op = .slice 9 x none (some y) none) (hx : a.eval x = .string (strOfNums l)) (hy : a.eval y = .int .i64 (k : Nat)) (hk : k ≤ l.length) : YieldsIf Try.prog ops S o (.string (strOfNums (l.take k))) a := by
  refine .inl ⟨hw, fun w _ => ?_⟩
  have hex : (strOfNums l).extract 0 k = strOfNums (l.take k) := by rw [str_extract]; rfl
  have hss := strOfNums_size l
  unfold execOp
  simp only [ho, hx, hy, Option.map_some, Option.map_none]
  simp [go_sem, hss, hex, hk]
theorem yieldsIf_backM {ops : Array Oper} {S : World → Prop} {o : Oper} {a : Act} {l : List Int} {k : Nat} (hw : Region.wanted o (yielded ops a.tmps) = true) (x y : Operand) (ho : o.op = .slice 9 x (some y) none none) (hx : a.eval x = .string (strOfNums l)) (hy : a.eval y = .int .i64 (k : Nat)) (hk : k ≤ l.length) : YieldsIf Try.prog ops S o (.string (strOfNums (l.drop k))) a := by
  refine .inl ⟨hw, fun w _ => ?_⟩
  have hex : (strOfNums l).extract k l.length = strOfNums (l.drop k) := by rw [str_extract, ← List.length_drop, List.take_length]
  have hss := strOfNums_size l
  unfold execOp
  simp only [ho, hx, hy, Option.map_some, Option.map_none]
  simp [go_sem, hss, hex, hk]
theorem sum_bytes (l : List Int) : Bytes (sumB l) := by
  obtain ⟨h0, h1⟩ := sum_bd l
  intro x hx
  simp only [sumB, List.mem_cons, List.not_mem_nil, or_false] at hx
  omega
/-- Bytes, read. -/
def RetR (r : IR) (w : World) (e : Ending) (w' : World) : Prop := ∃ A n c ds, e = .returned (.tuple #[.agg (pgL A n c r.en r.tp), .int .i64 r.lk, .int .i64 r.e]) ∧ PgR w' w'.heap.size A n c ds ∧ ds.map ND.norm = r.ns ∧ Below w.heap.size w w'
theorem RetR.no (y : Int) {w w' : World} (hb : Below w.heap.size w w') : RetR (irE y) w (.returned (.tuple #[.agg (pgL none 0 0 0 0), .int .i64 0, .int .i64 y])) w' :=
  ⟨none, 0, 0, [], rfl, ⟨⟨fun _ => ⟨rfl, rfl⟩, Nat.zero_le _, ⟨rfl, fun c hc => (by cases hc), fun h => absurd h (by decide)⟩, fun d hd => (by cases hd)⟩, fun d hd => (by cases hd)⟩, rfl, hb⟩
theorem PgR.below {w w' : World} {B n c : Nat} {A : Option Addr} {ds : List ND} (h : PgR w B A n c ds) (hb : Below B w w') : PgR w' B A n c ds := ⟨h.1.below hb, h.2⟩
theorem PgR.more {w : World} {B B' n c : Nat} {A : Option Addr} {ds : List ND} (h : PgR w B A n c ds) (hb : B ≤ B') : PgR w B' A n c ds := ⟨h.1.more hb, h.2⟩
set_option maxRecDepth 100000 in
set_option maxHeartbeats 8000000 in
theorem im_read (l : List Int) (hb : Bytes l) (hl : l.length ≤ 1000000) (w : World) : Calls Try.prog 9 #[.string (strOfNums l)] w (RetR (readR l) w) := by
  obtain ⟨w1, hw1⟩ : ∃ x, w.alloc (.cells #[.slice none 0 0, .int .i64 0, .int .i64 0] 24) = x := ⟨_, rfl⟩
  obtain ⟨k1, b1⟩ := box_planeM hw1
  have HK := Lib.hid k1
  have HB := Lib.hid b1
  have hss := strOfNums_size l
  have HBY := Lib.hid hb
  obtain ⟨k, hk⟩ : ∃ k, l.length - 4 = k := ⟨_, rfl⟩
  have hkl : k ≤ l.length := by omega
  have hwr : IntKind.i64.wrap (((strOfNums l).size : Int) - 4) = (l.length : Int) - 4 := by rw [IntKind.wrap_i64, hss]; omega
  have hmx : (if (0 : Int) > (l.length : Int) - 4 then (0 : Int) else (l.length : Int) - 4) = ((k : Nat) : Int) := by split <;> omega
  have HR : Hid (readR l = if l.length < 8 then irE 8 else if l.take 4 ≠ mkL then irE 7 else if sumB (l.take k) ≠ l.drop k then irE 14 else irP (plnR ⟨(l.take k).drop 4, 0⟩)) := by show _ = _; unfold readR bodyL sealL; rw [hk]
  clear k1 b1 hb
  go_enter Try.func9, Try.ntmps9
  go_upto_region 1 with fail
  (try rw [hw1])
  clear hw1
  refine wp_region_held_drew (S := fun W => Below w1.heap.size w1 W) (by kernel_rfl) (below_drewN (Below.refl _ w1) 1) (fun hH => ?_)
  obtain ⟨W, hW⟩ : ∃ x, w1.drew = x := ⟨_, rfl⟩
  rw [hW] at hH ⊢
  clear hW
  refine wpAnyH_take (i := 0) (v := .string (strOfNums l)) rfl (by kernel_rfl) (by kernel_rfl) (by kernel_rfl) (fun _ _ _ h => h) (.inl ⟨by rfl, fun _ _ => by kernel_rfl⟩) hH ?_
  (try simp only [List.getElem_toArray, List.getElem_cons_zero, Act.put, List.setIfInBounds_toArray, List.set_cons_zero, List.set_cons_succ])
  refine wpAnyH_take (i := 1) (v := .string (strOfNums l)) rfl (by kernel_rfl) (by kernel_rfl) (by kernel_rfl) (fun _ _ _ h => h) (.inl ⟨by rfl, fun _ _ => by kernel_rfl⟩) hH ?_
  (try simp only [List.getElem_toArray, List.getElem_cons_zero, List.getElem_cons_succ, Act.put, List.setIfInBounds_toArray, List.set_cons_zero, List.set_cons_succ])
  refine wpAnyH_take (i := 2) (v := .int .i64 ((strOfNums l).size : Nat)) rfl (by kernel_rfl) (by kernel_rfl) (by kernel_rfl) (fun _ _ _ h => h) (.inl ⟨by rfl, fun _ _ => by kernel_rfl⟩) hH ?_
  (try simp only [List.getElem_toArray, List.getElem_cons_zero, List.getElem_cons_succ, Act.put, List.setIfInBounds_toArray, List.set_cons_zero, List.set_cons_succ])
  refine wpAnyH_take (i := 3) (v := .int .i64 ((l.length : Int) - 4)) rfl (by kernel_rfl) (by kernel_rfl) (by kernel_rfl) (fun _ _ _ h => h) (yieldsIf_subM (by rfl) _ _ rfl rfl rfl hwr) hH ?_
  (try simp only [List.getElem_toArray, List.getElem_cons_zero, List.getElem_cons_succ, Act.put, List.setIfInBounds_toArray, List.set_cons_zero, List.set_cons_succ])
  refine wpAnyH_take (i := 4) (v := .int .i64 (if (0 : Int) > (l.length : Int) - 4 then (0 : Int) else (l.length : Int) - 4)) rfl (by kernel_rfl) (by kernel_rfl) (by kernel_rfl) (fun _ _ _ h => h) (.inl ⟨by rfl, fun _ _ => by kernel_rfl⟩) hH ?_
  (try simp only [List.getElem_toArray, List.getElem_cons_zero, List.getElem_cons_succ, Act.put, List.setIfInBounds_toArray, List.set_cons_zero, List.set_cons_succ])
  rw [hmx]
  refine wpAnyH_take (i := 5) (v := .string (strOfNums (l.take k))) rfl (by kernel_rfl) (by kernel_rfl) (by kernel_rfl) (fun _ _ _ h => h) (yieldsIf_frontM (by rfl) _ _ rfl rfl rfl hkl) hH ?_
  (try simp only [List.getElem_toArray, List.getElem_cons_zero, List.getElem_cons_succ, Act.put, List.setIfInBounds_toArray, List.set_cons_zero, List.set_cons_succ])
  refine wpAnyH_take (i := 6) (v := .string (strOfNums l)) rfl (by kernel_rfl) (by kernel_rfl) (by kernel_rfl) (fun _ _ _ h => h) (.inl ⟨by rfl, fun _ _ => by kernel_rfl⟩) hH ?_
  (try simp only [List.getElem_toArray, List.getElem_cons_zero, List.getElem_cons_succ, Act.put, List.setIfInBounds_toArray, List.set_cons_zero, List.set_cons_succ])
  refine wpAnyH_take (i := 7) (v := .string (strOfNums l)) rfl (by kernel_rfl) (by kernel_rfl) (by kernel_rfl) (fun _ _ _ h => h) (.inl ⟨by rfl, fun _ _ => by kernel_rfl⟩) hH ?_
  (try simp only [List.getElem_toArray, List.getElem_cons_zero, List.getElem_cons_succ, Act.put, List.setIfInBounds_toArray, List.set_cons_zero, List.set_cons_succ])
  refine wpAnyH_take (i := 8) (v := .int .i64 ((strOfNums l).size : Nat)) rfl (by kernel_rfl) (by kernel_rfl) (by kernel_rfl) (fun _ _ _ h => h) (.inl ⟨by rfl, fun _ _ => by kernel_rfl⟩) hH ?_
  (try simp only [List.getElem_toArray, List.getElem_cons_zero, List.getElem_cons_succ, Act.put, List.setIfInBounds_toArray, List.set_cons_zero, List.set_cons_succ])
  refine wpAnyH_take (i := 9) (v := .int .i64 ((l.length : Int) - 4)) rfl (by kernel_rfl) (by kernel_rfl) (by kernel_rfl) (fun _ _ _ h => h) (yieldsIf_subM (by rfl) _ _ rfl rfl rfl hwr) hH ?_
  (try simp only [List.getElem_toArray, List.getElem_cons_zero, List.getElem_cons_succ, Act.put, List.setIfInBounds_toArray, List.set_cons_zero, List.set_cons_succ])
  refine wpAnyH_take (i := 10) (v := .int .i64 (if (0 : Int) > (l.length : Int) - 4 then (0 : Int) else (l.length : Int) - 4)) rfl (by kernel_rfl) (by kernel_rfl) (by kernel_rfl) (fun _ _ _ h => h) (.inl ⟨by rfl, fun _ _ => by kernel_rfl⟩) hH ?_
  (try simp only [List.getElem_toArray, List.getElem_cons_zero, List.getElem_cons_succ, Act.put, List.setIfInBounds_toArray, List.set_cons_zero, List.set_cons_succ])
  rw [hmx]
  refine wpAnyH_take (i := 11) (v := .string (strOfNums (l.drop k))) rfl (by kernel_rfl) (by kernel_rfl) (by kernel_rfl) (fun _ _ _ h => h) (yieldsIf_backM (by rfl) _ _ rfl rfl rfl hkl) hH ?_
  (try simp only [List.getElem_toArray, List.getElem_cons_zero, List.getElem_cons_succ, Act.put, List.setIfInBounds_toArray, List.set_cons_zero, List.set_cons_succ])
  refine wpAnyH_take (i := 12) (v := .string (strOfNums (l.take k))) rfl (by kernel_rfl) (by kernel_rfl) (by kernel_rfl) (fun _ _ _ h => h) (.inl ⟨by rfl, fun _ _ => by kernel_rfl⟩) hH ?_
  (try simp only [List.getElem_toArray, List.getElem_cons_zero, List.getElem_cons_succ, Act.put, List.setIfInBounds_toArray, List.set_cons_zero, List.set_cons_succ])
  refine wpAnyH_take (i := 13) (v := .string (strOfNums (l.drop k))) rfl (by kernel_rfl) (by kernel_rfl) (by kernel_rfl) (fun _ _ _ h => h) (.inl ⟨by rfl, fun _ _ => by kernel_rfl⟩) hH ?_
  (try simp only [List.getElem_toArray, List.getElem_cons_zero, List.getElem_cons_succ, Act.put, List.setIfInBounds_toArray, List.set_cons_zero, List.set_cons_succ])
  refine wpAnyH_done (by kernel_rfl) ?_ _
  have HBW := Lib.hid (HB.out.trans (hH.mono HB.out.size))
  have HKW : Hid (Blk W w.heap.size 24 (pgL none 0 0 0 0)) := HK.out.below hH HK.out.lt
  clear hH HB HK hwr hmx
  obtain ⟨fr, hfr⟩ : ∃ x, l.take k = x := ⟨_, rfl⟩
  obtain ⟨sl, hsl⟩ : ∃ x, l.drop k = x := ⟨_, rfl⟩
  rw [hfr, hsl] at HR
  rw [hfr, hsl]
  have HBF : Hid (Bytes fr) := by show Bytes _; rw [← hfr]; exact HBY.out.take k
  have HBS : Hid (Bytes sl) := by show Bytes _; rw [← hsl]; exact HBY.out.drop k
  have hfl : fr.length = k := by rw [← hfr, List.length_take]; omega
  clear hfr hsl
  have SR0 := row_store HKW.out (pgL none 0 0 0 0) rfl planeT (by simp [pgL, Value.oneCell'])
  obtain ⟨W0, hW0⟩ : ∃ x, W.setCells w.heap.size 0 (pgL none 0 0 0 0).toList = x := ⟨_, rfl⟩
  have HK0 : Hid (Blk W0 w.heap.size 24 (pgL none 0 0 0 0)) := by show Blk _ _ _ _; rw [← hW0]; exact HKW.out.put _ rfl
  have HB0 : Hid (Below w.heap.size w W0) := by show Below _ _ _; rw [← hW0]; exact below_setCells HBW.out (Nat.le_refl _) (Nat.le_refl _) _ _
  rw [hW0] at SR0
  clear hW0
  unfold pgL at SR0
  by_cases h8 : l.length < 8
  · have h8i : (l.length : Int) < 8 := by omega
    have HE : Hid (readR l = irE 8) := by show _ = _; rw [HR.out, if_pos h8]
    clear HR h8
    go_wp2_with (refine wpList_storeE SR0 _ _ rfl rfl rfl rfl ?_)
    refine bodyPost_ret (v := .tuple #[.agg (pgL none 0 0 0 0), .int .i64 0, .int .i64 8]) ?_ rfl (by rw [HE.out]; exact .no 8 HB0.out)
    exact results_row12 Try.results9 _ rfl HK0.out Try.underlying24 rfl planeT
  rw [if_neg h8] at HR
  have h8i : ¬ (l.length : Int) < 8 := by omega
  have HPX := Lib.hid (fun V => str_prefix l (by omega) HBY.out V)
  by_cases hp : l.take 4 = mkL
  · rw [if_neg (fun h => h hp)] at HR
    rw [decide_eq_true hp] at HPX
    have HSM := Lib.hid (im_sum fr HBF.out (by omega) W)
    have hk4 : 4 ≤ k := by omega
    clear hp SR0 HK0 HB0
    by_cases hs : sumB fr = sl
    · rw [if_neg (fun h => h hs)] at HR
      have hsb : ((strOfNums (sumB fr)).toList == (strOfNums sl).toList) = true := by rw [hs]; simp
      have hssf := strOfNums_size fr
      have hexf : (strOfNums fr).extract 4 k = strOfNums (fr.drop 4) := by rw [str_extract, ← hfl, ← List.length_drop, List.take_length]
      have h4f : (4 : Int) ≤ (fr.length : Int) := by omega
      clear hs
      go_upto_region 9 with (first
        | (go_at_call 26; (with_reducible refine (HPX.out _).mono ?_); rintro e wz ⟨rfl, rfl⟩)
        | (go_at_call 20; (with_reducible refine HSM.out.mono ?_); rintro e W2 ⟨rfl, hb2⟩; have HB2 := Lib.hid hb2; clear hb2)
        | (go_at_call 27; (with_reducible refine (lit_new (fr.drop 4) _).mono ?_); rintro e W3 ⟨rfl, hw3⟩))
      have hbN3 : Below W2.heap.size W2 W3 := by rw [← hw3]; exact (Below.refl _ W2).alloc (Nat.le_refl _) _
      have hrd3 : RdrAt W3 W2.heap.size (fr.drop 4) 0 := by rw [← hw3]; exact RdrAt.new _ _
      have hsz3 : W3.heap.size = W2.heap.size + 1 := by rw [← hw3]; simp only [World.alloc, Array.size_push]
      obtain ⟨W4, hw4⟩ : ∃ x, W3.alloc (.cells #[.pointer (some ⟨W2.heap.size, 0, none⟩), .bool false, .int .i64 0, .int .i64 0] 68) = x := ⟨_, rfl⟩
      have hbN4 : Below W3.heap.size W3 W4 := by rw [← hw4]; exact (Below.refl _ W3).alloc (Nat.le_refl _) _
      have hk4b : Blk W4 W3.heap.size 68 #[.pointer (some ⟨W2.heap.size, 0, none⟩), .bool false, .int .i64 0, .int .i64 0] := by rw [← hw4]; exact Blk.new _ _ _
      have HRR : Hid (RrS W4 W3.heap.size W2.heap.size 0 0 ⟨fr.drop 4, 0⟩) := ⟨false, 0, fr.drop 4, hk4b, hrd3.below hbN4 hrd3.lt, by omega, rfl, fun _ => rfl, HBF.out.drop 4, by rw [List.length_drop]; omega⟩
      have HB4 : Hid (Below W.heap.size W W4) := (HB2.out.trans (hbN3.mono HB2.out.size)).trans (hbN4.mono (Nat.le_trans HB2.out.size hbN3.size))
      have HB4w : Hid (Below w.heap.size w W4) := HBW.out.trans (HB4.out.mono HBW.out.size)
      have HK4 : Hid (Blk W4 w.heap.size 24 (pgL none 0 0 0 0)) := HKW.out.below HB4.out HKW.out.lt
      have HGE : Hid (w.heap.size < W2.heap.size ∧ w.heap.size < W3.heap.size) := by
        have h1 := HKW.out.lt
        have h2 := HB2.out.size
        exact ⟨by omega, by omega⟩
      obtain ⟨g, hg⟩ : ∃ x, W3.heap.size = x := ⟨_, rfl⟩
      obtain ⟨q, hq⟩ : ∃ x, W2.heap.size = x := ⟨_, rfl⟩
      rw [hg, hq] at HRR HGE
      rw [hq] at hw4
      (try rw [hg])
      (try rw [hq])
      (try rw [hw4])
      clear hbN3 hrd3 hsz3 hw4 hbN4 hk4b hg hq hw3 HB2 HSM HPX
      obtain ⟨ps, pns, en, tp, lk, hpl⟩ : ∃ a b c d e, plnR ⟨fr.drop 4, 0⟩ = ⟨a, b, c, d, e⟩ := ⟨_, _, _, _, _, rfl⟩
      have HPL := Lib.hid (rr_plane HRR.out)
      rw [hpl] at HPL HR
      clear hpl
      go_upto_region 10 with (go_at_call 28; (with_reducible refine HPL.out.mono ?_); rintro e W5 ⟨A, n, c, ds, nn, he5, hr5, ht5, hp5, hn5⟩; obtain rfl : e = .returned (.agg #[.slice A n c, .int .i64 en, .int .i64 tp]) := he5; have HR5 := Lib.hid hr5; have HT5 := Lib.hid ht5; have HP5 := Lib.hid hp5; have HN5 := Lib.hid hn5; clear hr5 ht5 hp5 hn5)
      clear HPL
      obtain ⟨W6, hw6⟩ : ∃ x, W5.alloc (.cells #[.slice A n c, .int .i64 en, .int .i64 tp] 24) = x := ⟨_, rfl⟩
      obtain ⟨k6, b6⟩ := box_planeM hw6
      rw [hw6]
      have HR6 := Lib.hid (HR5.out.below b6)
      have HS5 : Hid (w.heap.size < W4.heap.size) := HK4.out.lt
      have HP6 : Hid (PgS W6 (fun k => W4.heap.size ≤ k ∧ k < W5.heap.size) A n c ds) := HP5.out.tch (Tch.of_below (S := fun _ => False) b6) fun b hb => ⟨hb.2, id⟩
      have HK6 : Hid (Blk W6 w.heap.size 24 (pgL none 0 0 0 0)) := (HK4.out.tch HT5.out (by rintro (h | h) <;> have := HGE.out <;> omega)).below b6 (by have := HT5.out.size; have := HS5.out; omega)
      have HB6w : Hid (Below w.heap.size w W6) := (HB4w.out.trans (HT5.out.below (by have := HS5.out; omega) (by rintro k (h | h) <;> have := HGE.out <;> omega))).trans (b6.mono (by have := HT5.out.size; have := HS5.out; omega))
      have HS6 : Hid (W5.heap.size < W6.heap.size) := k6.lt
      have HK8 := Lib.hid k6
      obtain ⟨P8, hp8⟩ : ∃ x, W5.heap.size = x := ⟨_, rfl⟩
      have h58 : Hid (W4.heap.size ≤ P8) := by show _ ≤ _; rw [← hp8]; exact HT5.out.size
      rw [hp8] at HP6 HK8 HS6
      rw [hp8]
      have LP := plane_loadM HK8.out
      have HWY := Lib.hid (rr_why (lk := lk) (en := en) (tp := tp) HR6.out (HP6.out.pgr (B := W6.heap.size) (fun b hb => by have := HS6.out; omega)).1)
      obtain ⟨y, hy⟩ : ∃ y, whyR ⟨ps, ds, en, tp, lk⟩ = y := ⟨_, rfl⟩
      have HY : Hid (whyR ⟨ps, pns, en, tp, lk⟩ = y) := by show _ = _; rw [← hy, ← HN5.out]; unfold whyR chkW; simp only [chkB_norm]
      rw [hy] at HWY
      clear hy hp8 k6 b6 hw6 HR5 HT5 HP5 HK4 HB4w HB4 HRR
      unfold pgL at LP HWY
      by_cases hy0 : y = 0
      · subst hy0
        have HE : Hid (readR l = ⟨pns, en, tp, lk, 0⟩) := by show _ = _; rw [HR.out]; unfold irP; rw [HY.out, if_pos rfl]
        clear HR HY
        go_upto_region 13 with (first
          | ((with_reducible refine wpList_loadE (op := ⟨some 46, _, _, _, _, _⟩) LP ?leX ?leG ?leO ?leE ?_); (case leO => exact rfl); (case leE => exact rfl); (case leG => exact rfl))
          | (go_at_call 29; (with_reducible refine HWY.out.mono ?_); rintro e W7 ⟨rfl, hb7⟩; have HB7 := Lib.hid hb7; clear hb7))
        have HP7 := Lib.hid (HP6.out.tch (Tch.of_below (S := fun _ => False) HB7.out) fun b hb => ⟨by have := HS6.out; omega, id⟩)
        have HK7 : Hid (Blk W7 w.heap.size 24 (pgL none 0 0 0 0)) := HK6.out.below HB7.out HK6.out.lt
        have HK87 : Hid (Blk W7 P8 24 (pgL A n c en tp)) := HK8.out.below HB7.out HK8.out.lt
        have HB7w : Hid (Below w.heap.size w W7) := HB6w.out.trans (HB7.out.mono HB6w.out.size)
        have cl : W7.cell? ⟨g, 2, none⟩ = some (.int .i64 lk) := (HR6.out.below HB7.out).links
        have HS7 : Hid (P8 < W7.heap.size) := HK87.out.lt
        clear LP HWY HP6 HK6 HK8 HB6w HB7 HS6 HR6
        refine wp_region_held_drew (S := fun V => Blk V P8 24 (pgL A n c en tp) ∧ V.cell? ⟨g, 2, none⟩ = some (.int .i64 lk)) (by kernel_rfl) ⟨HK87.out.drewN 1, cl⟩ (fun hH => ?_)
        have HKV : Hid (Blk W7.drew w.heap.size 24 (pgL none 0 0 0 0)) := HK7.out.drewN 1
        have bD : Below W7.heap.size W7 W7.drew := below_drewN (Below.refl _ W7) 1
        have HPV : Hid (PgS W7.drew (fun k => W4.heap.size ≤ k ∧ k < P8) A n c ds) := HP7.out.tch (Tch.of_below (S := fun _ => False) bD) fun b hb => ⟨by have := HS7.out; omega, id⟩
        have HBV : Hid (Below w.heap.size w W7.drew) := HB7w.out.trans (bD.mono HB7w.out.size)
        have HSV : Hid (P8 < W7.drew.heap.size) := HS7.out
        obtain ⟨V, hV⟩ : ∃ x, W7.drew = x := ⟨_, rfl⟩
        rw [hV] at hH HKV HPV HBV HSV ⊢
        clear hV bD HP7 HK7 HK87 HB7w cl HS7
        have SR := row_store HKV.out (pgL A n c en tp) rfl planeT (by simp [pgL, Value.oneCell'])
        obtain ⟨V0, hV0⟩ : ∃ x, V.setCells w.heap.size 0 (pgL A n c en tp).toList = x := ⟨_, rfl⟩
        have hT0 : Tch (fun k => k = w.heap.size) V V0 := by rw [← hV0]; exact Tch.setCells (S := fun k => k = w.heap.size) rfl _ _ _ (Tch.refl _ _)
        have HK0 : Hid (Blk V0 w.heap.size 24 (pgL A n c en tp)) := by show Blk _ _ _ _; rw [← hV0]; exact HKV.out.put _ rfl
        have HB0 : Hid (Below w.heap.size w V0) := HBV.out.trans (hT0.below (HBV.out.size) (by intro k hk; omega))
        have HP0 : Hid (PgS V0 (fun k => W4.heap.size ≤ k ∧ k < P8) A n c ds) := HPV.out.tch hT0 fun b hb => ⟨by have := HSV.out; omega, by have := HS5.out; omega⟩
        have HS0 : Hid (P8 < V0.heap.size) := Nat.lt_of_lt_of_le HSV.out hT0.size
        have hH0 : Blk V0 P8 24 (pgL A n c en tp) ∧ V0.cell? ⟨g, 2, none⟩ = some (.int .i64 lk) := ⟨hH.1.tch hT0 (by have := HS5.out; have := h58.out; omega), (hT0.cell (p := ⟨g, 2, none⟩) (block_lt_of_cell (a := ⟨g, 2, none⟩) hH.2) (by show ¬ g = _; have := HGE.out; omega)).trans hH.2⟩
        rw [hV0] at SR
        clear hV0 hT0
        refine wpAnyH_take (i := 0) (v := .agg (pgL A n c en tp)) rfl (by kernel_rfl) (by kernel_rfl) (by kernel_rfl) (fun _ _ _ h => h) (yieldsIf_loadP (by rfl) _ rfl rfl (fun _ q => plane_loadM q.1)) hH ?_
        (try simp only [List.getElem_toArray, List.getElem_cons_zero, Act.put, List.setIfInBounds_toArray, List.set_cons_zero, List.set_cons_succ])
        refine wpAnyH_take (i := 1) (v := .pointer (some ⟨g, 0, none⟩)) rfl (by kernel_rfl) (by kernel_rfl) (by kernel_rfl) (fun _ _ _ h => h) (.inl ⟨by rfl, fun _ _ => by kernel_rfl⟩) hH ?_
        (try simp only [List.getElem_toArray, List.getElem_cons_zero, List.getElem_cons_succ, Act.put, List.setIfInBounds_toArray, List.set_cons_zero, List.set_cons_succ])
        refine wpAnyH_take (i := 2) (v := .pointer (some ⟨g, 0, none⟩)) rfl (by kernel_rfl) (by kernel_rfl) (by kernel_rfl) (fun _ _ _ h => h) (.inl ⟨by rfl, fun _ _ => by kernel_rfl⟩) hH ?_
        (try simp only [List.getElem_toArray, List.getElem_cons_zero, List.getElem_cons_succ, Act.put, List.setIfInBounds_toArray, List.set_cons_zero, List.set_cons_succ])
        refine wpAnyH_take (i := 3) (v := .pointer (some ⟨g, 2, none⟩)) rfl (by kernel_rfl) (by kernel_rfl) (by kernel_rfl) (fun _ _ _ h => h) (.inl ⟨by rfl, fun _ _ => by kernel_rfl⟩) hH ?_
        (try simp only [List.getElem_toArray, List.getElem_cons_zero, List.getElem_cons_succ, Act.put, List.setIfInBounds_toArray, List.set_cons_zero, List.set_cons_succ])
        refine wpAnyH_take (i := 4) (v := .int .i64 lk) rfl (by kernel_rfl) (by kernel_rfl) (by kernel_rfl) (fun _ _ _ h => h) (yieldsIf_loadP (by rfl) _ rfl rfl (fun _ q => load_i64 q.2)) hH ?_
        (try simp only [List.getElem_toArray, List.getElem_cons_zero, List.getElem_cons_succ, Act.put, List.setIfInBounds_toArray, List.set_cons_zero, List.set_cons_succ])
        refine wpAnyH_store 5 _ _ _ (by kernel_rfl) (by rfl) (by kernel_rfl) (by rfl) (by rfl) (by rfl) SR hH0 ?_
        (try simp only [List.getElem_toArray, List.getElem_cons_zero, List.getElem_cons_succ, Act.put])
        refine wpAnyH_take (i := 6) (v := .int .i64 lk) rfl (by kernel_rfl) (by kernel_rfl) (by kernel_rfl) (fun _ _ _ h => h) (.inl ⟨by rfl, fun _ _ => by kernel_rfl⟩) hH0 ?_
        (try simp only [List.getElem_toArray, List.getElem_cons_zero, List.getElem_cons_succ, Act.put, List.setIfInBounds_toArray, List.set_cons_zero, List.set_cons_succ])
        refine wpAnyH_take (i := 7) (v := .int .i64 0) rfl (by kernel_rfl) (by kernel_rfl) (by kernel_rfl) (fun _ _ _ h => h) (.inl ⟨by rfl, fun _ _ => by kernel_rfl⟩) hH0 ?_
        (try simp only [List.getElem_toArray, List.getElem_cons_zero, List.getElem_cons_succ, Act.put, List.setIfInBounds_toArray, List.set_cons_zero, List.set_cons_succ])
        refine wpAnyH_done (by kernel_rfl) ?_ _
        clear SR hH hH0
        go_wp2_with fail
        refine bodyPost_ret (v := .tuple #[.agg (pgL A n c en tp), .int .i64 lk, .int .i64 0]) ?_ rfl (by rw [HE.out]; exact ⟨A, n, c, ds, rfl, HP0.out.pgr fun b hb => (by have := HS0.out; omega), HN5.out, HB0.out⟩)
        exact results_row12 Try.results9 _ rfl HK0.out Try.underlying24 rfl planeT
      · have hyb : (y != 0) = true := by simpa using hy0
        have HE : Hid (readR l = irE y) := by show _ = _; rw [HR.out]; unfold irP; rw [HY.out, if_neg hy0]
        clear hy0 HR HY
        go_upto_region 12 with (first
          | ((with_reducible refine wpList_loadE (op := ⟨some 46, _, _, _, _, _⟩) LP ?leX ?leG ?leO ?leE ?_); (case leO => exact rfl); (case leE => exact rfl); (case leG => exact rfl))
          | (go_at_call 29; (with_reducible refine HWY.out.mono ?_); rintro e W7 ⟨rfl, hb7⟩; have HB7 := Lib.hid hb7; clear hb7))
        have HK7 : Hid (Blk W7 w.heap.size 24 (pgL none 0 0 0 0)) := HK6.out.below HB7.out HK6.out.lt
        have HBW7 : Hid (Below w.heap.size w W7) := HB6w.out.trans (HB7.out.mono HB6w.out.size)
        have SR0 := row_store HK7.out (pgL none 0 0 0 0) rfl planeT (by simp [pgL, Value.oneCell'])
        obtain ⟨W0, hW0⟩ : ∃ x, W7.setCells w.heap.size 0 (pgL none 0 0 0 0).toList = x := ⟨_, rfl⟩
        have HK0 : Hid (Blk W0 w.heap.size 24 (pgL none 0 0 0 0)) := by show Blk _ _ _ _; rw [← hW0]; exact HK7.out.put _ rfl
        have HB0 : Hid (Below w.heap.size w W0) := by show Below _ _ _; rw [← hW0]; exact below_setCells HBW7.out (Nat.le_refl _) (Nat.le_refl _) _ _
        rw [hW0] at SR0
        clear hW0 LP HWY
        unfold pgL at SR0
        go_wp2_with (refine wpList_storeE SR0 _ _ rfl rfl rfl rfl ?_)
        refine bodyPost_ret (v := .tuple #[.agg (pgL none 0 0 0 0), .int .i64 0, .int .i64 y]) ?_ rfl (by rw [HE.out]; exact .no y HB0.out)
        exact results_row12 Try.results9 _ rfl HK0.out Try.underlying24 rfl planeT
    · rw [if_pos hs] at HR
      have hsb : ((strOfNums (sumB fr)).toList == (strOfNums sl).toList) = false := by rw [str_toList _ _ (sum_bytes fr) HBS.out, decide_eq_false hs]
      clear hs
      go_upto_region 7 with (first
        | (go_at_call 26; (with_reducible refine (HPX.out _).mono ?_); rintro e wz ⟨rfl, rfl⟩)
        | (go_at_call 20; (with_reducible refine HSM.out.mono ?_); rintro e W2 ⟨rfl, hb2⟩; have HB2 := Lib.hid hb2; clear hb2))
      have HK2 : Hid (Blk W2 w.heap.size 24 (pgL none 0 0 0 0)) := HKW.out.below HB2.out HKW.out.lt
      have HBW2 : Hid (Below w.heap.size w W2) := HBW.out.trans (HB2.out.mono HBW.out.size)
      have SR0 := row_store HK2.out (pgL none 0 0 0 0) rfl planeT (by simp [pgL, Value.oneCell'])
      obtain ⟨W0, hW0⟩ : ∃ x, W2.setCells w.heap.size 0 (pgL none 0 0 0 0).toList = x := ⟨_, rfl⟩
      have HK0 : Hid (Blk W0 w.heap.size 24 (pgL none 0 0 0 0)) := by show Blk _ _ _ _; rw [← hW0]; exact HK2.out.put _ rfl
      have HB0 : Hid (Below w.heap.size w W0) := by show Below _ _ _; rw [← hW0]; exact below_setCells HBW2.out (Nat.le_refl _) (Nat.le_refl _) _ _
      rw [hW0] at SR0
      clear hW0 HSM HPX
      unfold pgL at SR0
      go_wp2_with (refine wpList_storeE SR0 _ _ rfl rfl rfl rfl ?_)
      refine bodyPost_ret (v := .tuple #[.agg (pgL none 0 0 0 0), .int .i64 0, .int .i64 14]) ?_ rfl (by rw [HR.out]; exact .no 14 HB0.out)
      exact results_row12 Try.results9 _ rfl HK0.out Try.underlying24 rfl planeT
  · rw [if_pos hp] at HR
    rw [decide_eq_false hp] at HPX
    clear hp
    go_wp2_with (first
      | (go_at_call 26; (with_reducible refine (HPX.out _).mono ?_); rintro e wz ⟨rfl, rfl⟩)
      | refine wpList_storeE SR0 _ _ rfl rfl rfl rfl ?_)
    refine bodyPost_ret (v := .tuple #[.agg (pgL none 0 0 0 0), .int .i64 0, .int .i64 7]) ?_ rfl (by rw [HR.out]; exact .no 7 HB0.out)
    exact results_row12 Try.results9 _ rfl HK0.out Try.underlying24 rfl planeT
end Go.Proofs.Ytbpcddimnbjoeaa
