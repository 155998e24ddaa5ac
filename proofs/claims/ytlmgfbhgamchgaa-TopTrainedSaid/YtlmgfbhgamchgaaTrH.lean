/- cluster.Step: what lies in memory: rows of members, the next centers; slices.Clone; vec.Mean of none, of some. -/
import Derived.Test.YtlmgfbhgamchgaaTrG
import Derived.Test.YtlmgfbhgamchgaaTrF
import Derived.Laws.AppendOwn
namespace Go.Proofs.Ytlmgfbhgamchgaa
open Go.RowKit
/-- A row of vectors that grows. -/
structure Mr where
  A : Option Addr
  n : Nat
  c : Nat
  xs : List Vc
def Mr.v (r : Mr) : Value := .slice r.A r.n r.c
def mr0 : Mr := ⟨none, 0, 0, []⟩
def updM (f : Nat → Mr) (j : Nat) (r : Mr) : Nat → Mr := fun i => if i = j then r else f i
theorem updM_self (f : Nat → Mr) (j : Nat) (r : Mr) : updM f j r j = r := if_pos rfl
theorem updM_ne {f : Nat → Mr} {i j : Nat} {r : Mr} (h : i ≠ j) : updM f j r i = f i := if_neg h
def mrC (f : Nat → Mr) (k : Nat) : List Value := (List.range k).map fun j => (f j).v
theorem mrC_get {f : Nat → Mr} {k j : Nat} (h : j < k) : (mrC f k)[j]? = some (f j).v := by
  rw [mrC, List.getElem?_map, List.getElem?_range h]; rfl
theorem mrC_set {f : Nat → Mr} {k j : Nat} {r : Mr} (_h : j < k) : (mrC f k).set j r.v = mrC (updM f j r) k := by
  refine List.ext_getElem? fun i => ?_
  rw [List.getElem?_set]
  by_cases hi : i < k
  · rw [mrC_get hi, mrC_get hi]
    by_cases e : j = i
    · subst e; rw [if_pos rfl, if_pos (by simpa [mrC] using hi), updM_self]
    · rw [if_neg e, updM_ne (fun q => e q.symm)]
  · rw [List.getElem?_eq_none (by simp [mrC]; omega), List.getElem?_eq_none (by simp [mrC]; omega)]
    split
    · rw [if_neg (by simp [mrC]; omega)]
    · rfl
/-- Some rows of vectors, of the call's own. -/
structure MbS (w : World) (B0 M k : Nat) (f : Nat → Mr) : Prop where
  blk : Blk w M 34 (mrC f k).toArray
  own : ∀ j, j < k → w.ownsRow B0 22 1 (f j).v (f j).n ((f j).xs.map Vc.v)
  ne : ∀ j, j < k → ∀ b, (f j).v.ownBlock = some b → b ≠ M
  dis : ∀ i j, i < k → j < k → i ≠ j → ∀ b, (f i).v.ownBlock = some b → (f j).v.ownBlock ≠ some b
section
variable {w w' : World} {B0 M k : Nat} {f : Nat → Mr}
theorem MbS.below (h : MbS w B0 M k f) (hb : Below w.heap.size w w') : MbS w' B0 M k f :=
  ⟨h.blk.below hb h.blk.lt, fun j hj => ownsRow_apartT (h.own j hj) fun g hg => hb.block g (World.ownsRow.lt (h.own j hj) g hg).2, h.ne, h.dis⟩
theorem MbS.cell (h : MbS w B0 M k f) {j : Nat} (hj : j < k) : w.cell? ⟨M, 0 + j * 1, none⟩ = some (f j).v := by
  rw [h.blk.cell, Nat.zero_add, Nat.mul_one]
  simpa using mrC_get hj
theorem MbS.cell1 (h : MbS w B0 M k f) {j : Nat} (hj : j < k) {o : Obj} : (w.alloc o).cell? ⟨M, 0 + j * 1, none⟩ = some (f j).v := by
  rw [(h.blk.alloc o).cell, Nat.zero_add, Nat.mul_one]
  simpa using mrC_get hj
theorem MbS.store5 (h : MbS w B0 M k f) {j : Nat} (hj : j < k) {W5 : World} (hgr : w.grownBy W5 (f j).v.ownBlock) (A2 : Option Addr) (n2 c2 : Nat) : (Instr.storeAt 34 (.pointer (some ⟨M, 0 + j * 1, none⟩)) (.slice A2 n2 c2)).run Try.prog W5 = .ok () (W5.setCell ⟨M, 0 + j * 1, none⟩ (.slice A2 n2 c2)) := by
  have hb := h.blk.grown hgr (fun e => h.ne j hj M e.symm rfl)
  have hc : W5.cell? ⟨M, 0 + j * 1, none⟩ = some (f j).v := by
    rw [hb.cell, Nat.zero_add, Nat.mul_one]
    simpa using mrC_get hj
  have hf := hb.frozen (0 + j * 1)
  simp [go_sem] at hc hf ⊢
  simp [hc, hf]
theorem MbS.push (h : MbS w B0 M k f) {j : Nat} (hj : j < k) {W5 : World} {g c' : Nat} {u : Vc} (hgr : w.grownBy W5 (f j).v.ownBlock) (hat : (f j).v.ownBlock = some g ∨ w.heap.size ≤ g) (ho : W5.ownsRow B0 22 1 (.slice (some ⟨g, 0, none⟩) ((f j).n + 1) c') ((f j).n + 1) ((f j).xs.map Vc.v ++ [u.v])) :
    MbS (W5.setCell ⟨M, 0 + j * 1, none⟩ (.slice (some ⟨g, 0, none⟩) ((f j).n + 1) c')) B0 M k (updM f j ⟨some ⟨g, 0, none⟩, (f j).n + 1, c', (f j).xs ++ [u]⟩) := by
  have hb := h.blk.grown hgr (fun e => h.ne j hj M e.symm rfl)
  have hg : g ≠ M := by
    rcases hat with e | e
    · exact h.ne j hj g e
    · have := h.blk.lt; omega
  have hgi : ∀ i, i < k → i ≠ j → (f i).v.ownBlock ≠ some g := fun i hi hij e => by
    rcases hat with e2 | e2
    · exact h.dis i j hi hj hij g e e2
    · have := (World.ownsRow.lt (h.own i hi) g e).2; omega
  refine ⟨?_, fun i hi => ?_, fun i hi b hbb => ?_, fun i i2 hi hi2 hne b h1 h2 => ?_⟩
  · have := hb.set_ (0 + j * 1) (.slice (some ⟨g, 0, none⟩) ((f j).n + 1) c')
    rw [← mrC_set hj]
    rw [Nat.zero_add, Nat.mul_one] at this ⊢
    show Blk _ _ _ ((mrC f k).set j (.slice (some ⟨g, 0, none⟩) ((f j).n + 1) c')).toArray
    simpa using this
  · by_cases e : i = j
    · subst e
      rw [updM_self]
      refine ownsRow_apartT (A := some ⟨g, 0, none⟩) (w := W5) (by rw [List.map_append]; exact ho) fun b hbb => ?_
      obtain rfl : g = b := by injection hbb
      exact Below.heap_setCell W5 ⟨M, 0 + i * 1, none⟩ _ g hg
    · rw [updM_ne e]
      refine ownsRow_apartT (h.own i hi) fun b hbb => ?_
      exact (Below.heap_setCell W5 ⟨M, 0 + j * 1, none⟩ _ b (h.ne i hi b hbb)).trans (hgr.block b (World.ownsRow.lt (h.own i hi) b hbb).2 (fun q => h.dis i j hi hj e b hbb q.symm))
  · by_cases e : i = j
    · subst e
      rw [updM_self] at hbb
      obtain rfl : g = b := by injection hbb
      exact hg
    · rw [updM_ne e] at hbb
      exact h.ne i hi b hbb
  · by_cases e : i = j
    · subst e
      rw [updM_self] at h1
      obtain rfl : g = b := by injection h1
      rw [updM_ne (fun q => hne q.symm)] at h2
      exact hgi i2 hi2 (fun q => hne q.symm) h2
    · rw [updM_ne e] at h1
      by_cases e2 : i2 = j
      · subst e2
        rw [updM_self] at h2
        obtain rfl : g = b := by injection h2
        exact hgi i hi e h1
      · rw [updM_ne e2] at h2
        exact h.dis i i2 hi hi2 hne b h1 h2
end
/-- The next centers, as far as k; zeros behind. -/
structure OuS (w : World) (O K k : Nat) (l : List Vc) : Prop where
  blk : Blk w O 22 (l.map Vc.v ++ List.replicate (K - k) (Value.slice none 0 0)).toArray
  len : l.length = k
  at_ : ∀ v ∈ l, v.At w w.heap.size ∧ ∀ b o, v.A = some ⟨b, o, none⟩ → b ≠ O
theorem Vc.At.tch {w w' : World} {O : Nat} {v : Vc} (h : v.At w w.heap.size) (hO : ∀ b o, v.A = some ⟨b, o, none⟩ → b ≠ O) (ht : Tch (fun k => k = O) w w') : v.At w' w'.heap.size :=
  ⟨h.1, h.2.1, ⟨h.2.2.1.1, fun hn => by
    obtain ⟨b, o, e, hb, hc⟩ := h.2.2.1.2 hn
    exact ⟨b, o, e, Nat.lt_of_lt_of_le hb ht.size, fun j u hu => (ht.cell (p := ⟨b, o + j, none⟩) hb (hO b o e)).trans (hc j u hu)⟩⟩, h.2.2.2⟩
theorem OuS.below {w w' : World} {O K k : Nat} {l : List Vc} (h : OuS w O K k l) (hb : Below w.heap.size w w') : OuS w' O K k l :=
  ⟨h.blk.below hb h.blk.lt, h.len, fun v hv => ⟨(h.at_ v hv).1.tch (h.at_ v hv).2 (Tch.of_below hb), (h.at_ v hv).2⟩⟩
theorem rep_cons {K k : Nat} (h : k < K) (z : Value) : List.replicate (K - k) z = z :: List.replicate (K - (k + 1)) z := by
  rw [show K - k = (K - (k + 1)) + 1 by omega, List.replicate_succ]
theorem OuS.cell {w : World} {O K k : Nat} {l : List Vc} (h : OuS w O K k l) (hk : k < K) : w.cell? ⟨O, k, none⟩ = some (.slice none 0 0) := by
  rw [h.blk.cell, rep_cons hk]
  simp [h.len]
theorem OuS.put {w : World} {O K k : Nat} {l : List Vc} {v : Vc} (h : OuS w O K k l) (hk : k < K) (hv : v.At w w.heap.size) (hO : ∀ b o, v.A = some ⟨b, o, none⟩ → b ≠ O) : OuS (w.setCell ⟨O, k, none⟩ v.v) O K (k + 1) (l ++ [v]) := by
  have ht : Tch (fun k => k = O) w (w.setCell ⟨O, k, none⟩ v.v) := (Tch.refl (fun k => k = O) w).setCell rfl k v.v
  refine ⟨?_, by simp [h.len], fun u hu => ?_⟩
  · have := h.blk.set_ k v.v
    rw [rep_cons hk] at this
    simpa [h.len, List.set_append] using this
  · rcases List.mem_append.1 hu with q | q
    · exact ⟨(h.at_ u q).1.tch (h.at_ u q).2 ht, (h.at_ u q).2⟩
    · rw [List.mem_singleton] at q; subst q
      exact ⟨hv.tch hO ht, hO⟩
/-- .. the last one, written again. -/
theorem OuS.again {w : World} {O K k : Nat} {l : List Vc} {v u : Vc} (h : OuS w O K (k + 1) (l ++ [v])) (hu : u.At w w.heap.size) (hO : ∀ b o, u.A = some ⟨b, o, none⟩ → b ≠ O) : OuS (w.setCell ⟨O, k, none⟩ u.v) O K (k + 1) (l ++ [u]) := by
  have ht : Tch (fun k => k = O) w (w.setCell ⟨O, k, none⟩ u.v) := (Tch.refl (fun k => k = O) w).setCell rfl k u.v
  have hl : l.length = k := by have := h.len; simpa using this
  refine ⟨?_, by simp [hl], fun x hx => ?_⟩
  · have := h.blk.set_ k u.v
    simpa [hl, List.set_append] using this
  · rcases List.mem_append.1 hx with q | q
    · have := h.at_ x (List.mem_append_left _ q)
      exact ⟨this.1.tch this.2 ht, this.2⟩
    · rw [List.mem_singleton] at q; subst q
      exact ⟨hu.tch hO ht, hO⟩
theorem OuS.cell2 {w : World} {O K k : Nat} {l : List Vc} {v : Vc} (h : OuS w O K (k + 1) (l ++ [v])) : w.cell? ⟨O, k, none⟩ = some v.v := by
  have hl : l.length = k := by have := h.len; simpa using this
  rw [h.blk.cell]
  simp [hl]
theorem OuS.vcs {w : World} {O K : Nat} {l : List Vc} (h : OuS w O K K l) : Vcs w w.heap.size (some ⟨O, 0, none⟩) K l := by
  refine ⟨⟨by simp [h.len], fun _ => ⟨O, 0, rfl, h.blk.lt, fun j u hu => ?_⟩⟩, fun v hv => (h.at_ v hv).1⟩
  rw [h.blk.cell, Nat.zero_add, Nat.sub_self]
  simpa using hu
set_option maxRecDepth 100000 in
set_option maxHeartbeats 1000000 in
/-- A copy of a vector. -/
theorem vc_clone (v : Vc) (w : World) (hv : v.At w w.heap.size) (h1 : 1 ≤ v.n) (h2 : v.n ≤ 4096) :
    Calls Try.prog 35 #[v.v] w fun e w' => ∃ x : Vc, e = .returned x.v ∧ x.xs = v.xs ∧ x.n = v.n ∧ x.At w' w'.heap.size ∧ (∀ b o, x.A = some ⟨b, o, none⟩ → w.heap.size ≤ b) ∧ Below w.heap.size w w' := by
  have hlen := hv.len
  obtain ⟨b, o, e, hb, hc⟩ := hv.2.2.1.2 (by omega)
  have HBD := Lib.hid hv.2.2.2
  obtain ⟨VA, vn, vc, vx⟩ := v
  simp only [Vc.v] at hlen e h1 h2 hb hc HBD ⊢
  subst e
  have HC := Lib.hid hc
  have HB : Hid (b < w.heap.size) := hb
  have ez := fun (w : World) (A : Option Addr) (l c : Nat) => Lib.run_eql_slice_nil (P := Try.prog) w 22 21 A l c 0 0 Try.underlying22
  obtain ⟨i, hi, hiz, hz1, hz2⟩ := info_parts info_i32T
  have hb0 : Below w.heap.size w (w.alloc (.cells #[] 21)) := bel_boxT _ _
  have HB0 := Lib.hid hb0
  have hown : (w.alloc (.cells #[] 21)).ownsRow w.heap.size 21 1 (.slice (some ⟨w.heap.size, 0, none⟩) 0 0) 0 [] :=
    ⟨by simp, Or.inr ⟨w.heap.size, 0, #[], rfl, Nat.le_refl _, heap_alloc_new w _, Nat.le_refl _, Nat.zero_le _, by simp, by simp⟩⟩
  have HO := Lib.hid hown
  clear hv hc hb hb0 hown
  go_enter Try.func35, Try.ntmps35
  go_wp2_with (at_builtin; refine wpList_append_lies (w.alloc (.cells #[] 21)) rfl (.tmp 5) (.tmp 6) 22 rfl w.heap.size 21 i (.int .i32 0) 1 4 Try.underlying22 hi hiz hz1 hz2 rfl (by decide) (.slice (some ⟨w.heap.size, 0, none⟩) 0 0) 0 [] rfl HO.out ⟨b, o, none⟩ vn vc (vx.map (.int .i32)) rfl (by rw [List.length_map, hlen, Nat.mul_one]) (by intro j u hu; rw [Addr.add_lit]; exact (HB0.out.cell (p := ⟨b, o + j, none⟩) HB.out).trans (HC.out j u hu)) (by intro u hu; obtain ⟨z, _, rfl⟩ := List.mem_map.1 hu; rfl) (by omega) (by unfold maxLen; omega) (by omega) HB0.out.size _ rfl ?_; intro g2 c2 w3 ho3 hgr3 hat3 hlt3; rw [List.nil_append, Nat.zero_add] at ho3; have HX3 : Hid (∃ x : Vc, Value.slice (some ⟨g2, 0, none⟩) vn c2 = x.v ∧ x.xs = vx ∧ x.n = vn ∧ x.At w3 w3.heap.size ∧ (∀ b o, x.A = some ⟨b, o, none⟩ → w.heap.size ≤ b) ∧ Below w.heap.size w w3) := ⟨⟨some ⟨g2, 0, none⟩, vn, c2, vx⟩, rfl, rfl, rfl, own_vc ho3 HBD.out, (fun b o e => by
      injection e with e
      injection e with e1 e2 e3
      subst e1
      rcases hat3 with q | q
      · have q : some w.heap.size = some g2 := q
        injection q with q; omega
      · rw [q]; exact HB0.out.size), HB0.out.grown hgr3 HB0.out.size (fun k hk => by have hk : some w.heap.size = some k := hk; injection hk with hk; omega)⟩; clear ho3 hgr3 hat3 hlt3)
  go_ret
  obtain ⟨x, hx, hr⟩ := HX3.out
  exact ⟨x, congrArg Ending.returned hx, hr⟩
set_option maxRecDepth 100000 in
theorem mean_none (A : Option Addr) (c : Nat) (w : World) : Calls Try.prog 36 #[.slice A 0 c] w fun e w' => e = .returned (.tuple #[.slice none 0 0, .int .i64 7]) ∧ w = w' := by
  go_enter Try.func36, Try.ntmps36
  go_wp2
  refine bodyPost_ret (v := .tuple #[.slice none 0 0, .int .i64 7]) (by simp [results, Try.results36, go_sem]) rfl ?_
  exact ⟨rfl, rfl⟩
theorem mean_some (A : Option Addr) (m c n : Nat) (l : List Vc) (w : World) (hr : Vcs w w.heap.size A m l) (hm : m ≤ 30) (hm0 : 0 < m) (hn1 : 1 ≤ n) (hn : n ≤ 4096) (ho : ∀ v ∈ vxs l, OkV n v) :
    Calls Try.prog 36 #[.slice A m c] w fun e w' => ∃ x : Vc, e = .returned (.tuple #[x.v, .int .i64 0]) ∧ x.xs = meanL (vxs l) n ∧ x.n = n ∧ x.At w' w'.heap.size ∧ (∀ b o, x.A = some ⟨b, o, none⟩ → w.heap.size ≤ b) ∧ Below w.heap.size w w' := by
  have hlen : (vxs l).length = m := by rw [vxs_len, hr.len]
  have hok := ok_mean ho (by omega)
  have hb32 : ∀ k i, -2147483648 ≤ ig (lg (vxs l) k) i ∧ ig (lg (vxs l) k) i ≤ 2147483647 := fun k i => by
    by_cases hk : k < (vxs l).length
    · have := (ho _ (lg_mem hk)).2 i; omega
    · rw [lg, List.getD_eq_getElem?_getD, List.getElem?_eq_none (by omega)]; show _ ≤ ig [] i ∧ _; simp [ig]
  refine (vec_meanF A m c n (vxs l) w hr.rdm (by omega) hm0 (by omega) (fun k hk => (ho _ (lg_mem (by omega))).1) hb32).mono ?_
  rintro e w' ⟨A', c', rfl, hc', hrd, hb, hfr⟩
  refine ⟨⟨A', n, c', meanL (vxs l) n⟩, rfl, rfl, rfl, ⟨fun h => ?_, ⟨hc', by show n ≤ _; omega⟩, hrd, fun z hz => ?_⟩, hfr, hb⟩
  · obtain ⟨b, o, q, _⟩ := hrd.2 (by omega)
    simp only at h
    rw [h] at q; cases q
  · have hz : z ∈ meanL (vxs l) n := hz
    obtain ⟨i, hi, rfl⟩ := List.mem_iff_getElem.1 hz
    have := hok.2 i
    have e : ig (meanL (vxs l) n) i = (meanL (vxs l) n)[i] := by rw [ig, List.getD_eq_getElem?_getD, List.getElem?_eq_getElem hi]; rfl
    rw [e] at this
    omega
end Go.Proofs.Ytlmgfbhgamchgaa
