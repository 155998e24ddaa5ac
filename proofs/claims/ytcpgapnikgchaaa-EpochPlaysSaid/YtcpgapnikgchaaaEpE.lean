/- The document's clock: walks of its steps (more printed by genEpE.py in XEpX). -/
import Derived.Test.YtcpgapnikgchaaaEpG
namespace Go.Proofs.Ytcpgapnikgchaaa
open Go.RowKit
/-- A slice does not lie in the blocks of S. -/
def Off (S : Nat → Prop) (A : Option Addr) (n : Nat) : Prop := 0 < n → ∀ a : Addr, A = some a → ¬ S a.block
theorem Off.fresh {S : Nat → Prop} {g n : Nat} (h : ¬ S g) : Off S (some ⟨g, 0, none⟩) n := fun _ a ha => by injection ha with ha; rw [← ha]; exact h
theorem Rd.far {w w' : World} {A : Option Addr} {n : Nat} {xs : List Value} {S : Nat → Prop} (h : Rd w w.heap.size A n xs) (ho : Off S A n) (ht : Tch S w w') : Rd w' w'.heap.size A n xs := by
  refine ⟨h.1, fun hn => ?_⟩
  obtain ⟨b, o, e, hb, hc⟩ := h.2 hn
  have hs := ho hn _ e
  exact ⟨b, o, e, Nat.lt_of_lt_of_le hb ht.size, fun k u hu => (ht.cell (p := ⟨b, o + k, none⟩) hb hs).trans (hc k u hu)⟩
theorem Rd2.far {w w' : World} {A : Option Addr} {n : Nat} {fl : List Int} {S : Nat → Prop} (h : Rd2 w w.heap.size A n fl) (ho : Off S A n) (ht : Tch S w w') : Rd2 w' w'.heap.size A n fl := by
  refine ⟨h.1, fun hn => ?_⟩
  obtain ⟨b, o, e, hb, hc⟩ := h.2 hn
  have hs := ho hn _ e
  exact ⟨b, o, e, Nat.lt_of_lt_of_le hb ht.size, fun k hk => (ht.cell (p := ⟨b, o + k, none⟩) hb hs).trans (hc k hk)⟩
/-- The document's clock, as a value. -/
def cV (e a : Nat) (L R M : Value) : Value := .agg #[.int .i64 e, L, R, M, .int .i64 a]
set_option maxRecDepth 100000 in
theorem r_has (e a : Nat) (L M : Value) (A : Option Addr) (n c : Nat) (i : Int) (w : World) :
    Calls Try.prog 21 #[cV e a L (.slice A n c) M, .int .i64 i] w fun en w' => en = .returned (.bool (decide (0 ≤ i) && decide (i < n))) ∧ Below w.heap.size w w' := by
  have K := (Blk.new w 31 #[.int .i64 e, L, .slice A n c, M, .int .i64 a])
  have k2 := K.cell 2
  have HB : Hid (Below w.heap.size w (w.alloc (.cells #[.int .i64 e, L, .slice A n c, M, .int .i64 a] 31))) := (Below.refl _ w).alloc (Nat.le_refl _) _
  clear K
  unfold cV
  by_cases h0 : 0 ≤ i
  · have t1 : decide (i ≥ 0) = true := by simpa using h0
    have t2 : decide (0 ≤ i) = true := by simpa using h0
    go_enter Try.func21, Try.ntmps21
    go_wp2
    go_ret
    exact ⟨by simp; omega, HB.out⟩
  · have t1 : decide (i ≥ 0) = false := by simpa using h0
    have t2 : decide (0 ≤ i) = false := by simpa using h0
    go_enter Try.func21, Try.ntmps21
    go_wp2
    go_ret
    exact ⟨by simp, HB.out⟩
theorem int_info : ∃ i z, Try.prog.info? 3 = some i ∧ i.zero = some z ∧ i.size = 1 ∧ i.bytes = 8 ∧ z.cells.size = 1 := by
  have h : (Try.prog.info? 3).map (fun i => (i.zero.map Value.cells, i.size, i.bytes)) = some (some #[.int .i64 0], 1, 8) := by kernel_rfl
  obtain ⟨i, hi, hzz⟩ := Option.map_eq_some_iff.1 h
  simp only [Prod.mk.injEq] at hzz
  obtain ⟨hz, hs, hb⟩ := hzz
  obtain ⟨z, hz1, hz2⟩ := Option.map_eq_some_iff.1 hz
  exact ⟨i, z, hi, hz1, hs, hb, by rw [hz2]; rfl⟩
set_option maxRecDepth 100000 in
theorem r_set (A : Option Addr) (n c : Nat) (xs : List Int) (i : Nat) (u : Int) (w : World) (hr : Rd w w.heap.size A n (xs.map (.int .i64))) (hi : i < n) (hn : n ≤ 1048576) :
    Calls Try.prog 26 #[.slice A n c, .int .i64 i, .int .i64 u] w fun e w' => (∃ g c', e = .returned (.slice (some ⟨g, 0, none⟩) n c') ∧ w.heap.size ≤ g ∧ Rd w' w'.heap.size (some ⟨g, 0, none⟩) n ((xs.set i u).map (.int .i64))) ∧ Below w.heap.size w w' := by
  obtain ⟨b, o, rfl, hbl, hcells⟩ := hr.allI (by omega)
  have hxl := hr.lenI
  obtain ⟨ri, rz, ri1, rz1, ri2, ri3, rz2⟩ := int_info
  have hb0 : Below w.heap.size w (w.alloc (.cells #[] 3)) := (Below.refl _ w).alloc (Nat.le_refl _) _
  have hown : Hid ((w.alloc (.cells #[] 3)).ownsRow w.heap.size 3 1 (.slice (some ⟨w.heap.size, 0, none⟩) 0 0) 0 []) :=
    ⟨rfl, Or.inr ⟨w.heap.size, 0, #[], rfl, Nat.le_refl _, heap_alloc_new w _, Nat.le_refl _, Nat.zero_le _, rfl, rfl⟩⟩
  have hlen : Hid ((xs.map (Value.int .i64)).length = n * 1) := by show _ = _; simpa using hxl
  have hnew : Hid (∀ j v, (xs.map (Value.int .i64))[j]? = some v → (w.alloc (.cells #[] 3)).cell? (Addr.add ⟨b, o, none⟩ j) = some v) := by
    intro j v hv
    have hj : j < n := by
      have := (List.getElem?_eq_some_iff.1 hv).1
      rw [List.length_map, hxl] at this
      exact this
    rw [Addr.add_lit]
    refine ((hb0.cell (p := ⟨b, o + j, none⟩) hbl).trans (hcells j hj)).trans ?_
    rw [List.getElem?_map, List.getElem?_eq_getElem (by rw [hxl]; exact hj)] at hv
    rw [← hv]
    simp [ig, List.getD_eq_getElem?_getD, List.getElem?_eq_getElem (show j < xs.length by rw [hxl]; exact hj)]
  have hone : Hid (∀ v ∈ xs.map (Value.int .i64), v.oneCell' = true) := by
    intro v hv
    obtain ⟨x, _, rfl⟩ := List.mem_map.1 hv
    rfl
  have h63 : Hid (0 + n ≤ maxLen) := by show _ ≤ _; unfold maxLen; omega
  have hby : Hid ((0 + n) * 8 ≤ 140737488355328) := by show _ ≤ _; omega
  have hn0 : Hid (0 < n) := by show _ < _; omega
  have HB := Lib.hid hb0
  have HXL := Lib.hid hxl
  clear hr hb0 hbl hcells hxl
  go_enter Try.func26, Try.ntmps26
  go_wp2_with (at_builtin; refine wpList_append_lies _ rfl (.tmp 8) (.tmp 9) 28 rfl w.heap.size 3 ri rz 1 8 Try.underlying28 ri1 rz1 ri2 ri3 rz2 (by decide) (.slice (some ⟨w.heap.size, 0, none⟩) 0 0) 0 [] (by simp [Act.eval]) hown.out ⟨b, o, none⟩ n c (xs.map (.int .i64)) (by simp [Act.eval]) hlen.out hnew.out hone.out hn0.out h63.out hby.out HB.out.size _ rfl ?_; intro g cap w' ho hg _ hgl; rw [List.nil_append, Nat.zero_add] at ho; have hib := IB.of_own ho; have ck := hib.cell (k := i) (by rw [HXL.out]; exact hi); have fk := hib.frozen i; have hgb := (own_block ho rfl).1; have hs := hib.set_ (k := i) (by rw [HXL.out]; exact hi) u; have HS := Lib.hid hs; have hbg := HB.out.grown hg HB.out.size (fun k hk => by injection hk with hk; exact Nat.le_of_eq hk); have HBG := Lib.hid hbg; have HGB := Lib.hid hgb; clear ho hg hib hgb hs hbg hgl)
  go_ret
  have hrd := HS.out.rd
  rw [List.length_set, HXL.out] at hrd
  exact ⟨⟨g, cap, rfl, HGB.out, hrd⟩, HBG.out.setCell (p := ⟨g, i, none⟩) HGB.out _⟩
def c0s : Array Value := #[.int .i64 0, .slice none 0 0, .slice none 0 0, .slice none 0 0, .int .i64 0]
/-- The two blocks that a step of the document's clock makes ahead of all else: its clock, its result. -/
structure CB (w0 w : World) (b : Nat) (cs zs : Array Value) : Prop where
  k0 : Blk w b 31 cs
  k1 : Blk w (b + 1) 31 zs
  bel : Below b w0 w
  lt : b + 2 ≤ w.heap.size
theorem CB.new (w : World) (cs : Array Value) : CB w ((w.alloc (.cells cs 31)).alloc (.cells c0s 31)) w.heap.size cs c0s := by
  have h1 := Blk.new w 31 cs
  have e : (w.alloc (.cells cs 31)).heap.size = w.heap.size + 1 := by simp only [World.alloc, Array.size_push]
  have h2 := Blk.new (w.alloc (.cells cs 31)) 31 c0s
  rw [e] at h2
  exact ⟨h1.alloc _, h2, ((Below.refl _ w).alloc (Nat.le_refl _) _).alloc (by rw [e]; omega) _, by simp only [World.alloc, Array.size_push]; omega⟩
section
variable {w0 w w' : World} {b : Nat} {cs zs : Array Value}
theorem CB.below (h : CB w0 w b cs zs) (hb : Below w.heap.size w w') : CB w0 w' b cs zs :=
  ⟨h.k0.below hb h.k0.lt, h.k1.below hb h.k1.lt, h.bel.trans (hb.mono (by have := h.lt; omega)), Nat.le_trans h.lt hb.size⟩
theorem CB.drewN (h : CB w0 w b cs zs) (n : Nat) : CB w0 (w.drewN n) b cs zs := ⟨h.k0, h.k1, below_drewN h.bel n, h.lt⟩
theorem CB.set0 (h : CB w0 w b cs zs) (k : Nat) (u : Value) : CB w0 (w.setCell ⟨b, k, none⟩ u) b (cs.setIfInBounds k u) zs :=
  ⟨h.k0.set_ k u, h.k1.far (p := ⟨b, k, none⟩) (by show b + 1 ≠ b; omega) u, h.bel.setCell (p := ⟨b, k, none⟩) (Nat.le_refl _) u, by simpa [World.setCell] using h.lt⟩
theorem CB.set1 (h : CB w0 w b cs zs) (k : Nat) (u : Value) : CB w0 (w.setCell ⟨b + 1, k, none⟩ u) b cs (zs.setIfInBounds k u) :=
  ⟨h.k0.far (p := ⟨b + 1, k, none⟩) (by show b ≠ b + 1; omega) u, h.k1.set_ k u, h.bel.setCell (p := ⟨b + 1, k, none⟩) (Nat.le_succ _) u, by simpa [World.setCell] using h.lt⟩
def put5 (w : World) (b : Nat) (c0 c1 c2 c3 c4 : Value) : World := ((((w.setCell ⟨b, 0, none⟩ c0).setCell ⟨b, 1, none⟩ c1).setCell ⟨b, 2, none⟩ c2).setCell ⟨b, 3, none⟩ c3).setCell ⟨b, 4, none⟩ c4
theorem put5_tch (w : World) (b : Nat) (c0 c1 c2 c3 c4 : Value) : Tch (fun k => k = b) w (put5 w b c0 c1 c2 c3 c4) :=
  (((((Tch.refl (fun k => k = b) w).setCell (g := b) rfl 0 c0).setCell (g := b) rfl 1 c1).setCell (g := b) rfl 2 c2).setCell (g := b) rfl 3 c3).setCell (g := b) rfl 4 c4
/-- The end of a step: its result stands in its block. -/
theorem CB.done {z0 z1 z2 z3 z4 : Value} (h : CB w0 w b cs #[z0, z1, z2, z3, z4]) (c0 c1 c2 c3 c4 : Value) : CB w0 (put5 w (b + 1) c0 c1 c2 c3 c4) b cs #[c0, c1, c2, c3, c4] :=
  ((((h.set1 0 c0).set1 1 c1).set1 2 c2).set1 3 c3).set1 4 c4
theorem CB.facts {c0 c1 c2 c3 c4 : Value} (h : CB w0 w b #[c0, c1, c2, c3, c4] c0s) :
    (w.cell? ⟨b, 0, none⟩ = some c0 ∧ w.cell? ⟨b, 1, none⟩ = some c1 ∧ w.cell? ⟨b, 2, none⟩ = some c2 ∧ w.cell? ⟨b, 3, none⟩ = some c3 ∧ w.cell? ⟨b, 4, none⟩ = some c4) ∧
    (w.drew.cell? ⟨b, 0, none⟩ = some c0 ∧ w.drew.cell? ⟨b, 1, none⟩ = some c1 ∧ w.drew.cell? ⟨b, 2, none⟩ = some c2 ∧ w.drew.cell? ⟨b, 3, none⟩ = some c3 ∧ w.drew.cell? ⟨b, 4, none⟩ = some c4) ∧
    (w.cell? ⟨b + 1, 0, none⟩ = some (.int .i64 0) ∧ w.cell? ⟨b + 1, 1, none⟩ = some (.slice none 0 0) ∧ w.cell? ⟨b + 1, 2, none⟩ = some (.slice none 0 0) ∧ w.cell? ⟨b + 1, 3, none⟩ = some (.slice none 0 0) ∧ w.cell? ⟨b + 1, 4, none⟩ = some (.int .i64 0)) ∧
    (w.drew.cell? ⟨b + 1, 0, none⟩ = some (.int .i64 0) ∧ w.drew.cell? ⟨b + 1, 1, none⟩ = some (.slice none 0 0) ∧ w.drew.cell? ⟨b + 1, 2, none⟩ = some (.slice none 0 0) ∧ w.drew.cell? ⟨b + 1, 3, none⟩ = some (.slice none 0 0) ∧ w.drew.cell? ⟨b + 1, 4, none⟩ = some (.int .i64 0)) ∧
    (∀ i, w.frozen? ⟨b, i, none⟩ = false) ∧ (∀ i, w.drew.frozen? ⟨b, i, none⟩ = false) ∧ (∀ i, w.frozen? ⟨b + 1, i, none⟩ = false) ∧ ∀ i, w.drew.frozen? ⟨b + 1, i, none⟩ = false :=
  ⟨⟨h.k0.cell 0, h.k0.cell 1, h.k0.cell 2, h.k0.cell 3, h.k0.cell 4⟩, ⟨h.k0.cell 0, h.k0.cell 1, h.k0.cell 2, h.k0.cell 3, h.k0.cell 4⟩,
   ⟨h.k1.cell 0, h.k1.cell 1, h.k1.cell 2, h.k1.cell 3, h.k1.cell 4⟩, ⟨h.k1.cell 0, h.k1.cell 1, h.k1.cell 2, h.k1.cell 3, h.k1.cell 4⟩,
   h.k0.frozen, h.k0.frozen, h.k1.frozen, h.k1.frozen⟩
end
set_option maxRecDepth 100000 in
theorem r_load (e a : Nat) (LA RA MA : Option Addr) (n lc rc k mc : Nat) (xs : List Int) (i : Nat) (w : World) (hr : Rd w w.heap.size LA n (xs.map (.int .i64))) (hi : i < n) (hn : n ≤ 1048576) :
    Calls Try.prog 8 #[cV e a (.slice LA n lc) (.slice RA n rc) (.slice MA k mc), .int .i64 i] w fun en w' => (∃ g c', en = .returned (.tuple #[cV e a (.slice (some ⟨g, 0, none⟩) n c') (.slice RA n rc) (.slice MA k mc), .int .i64 e]) ∧ w.heap.size ≤ g ∧ Rd w' w'.heap.size (some ⟨g, 0, none⟩) n ((xs.set i e).map (.int .i64))) ∧ Below w.heap.size w w' := by
  unfold cV
  have h1 := fun w => r_has e a (.slice LA n lc) (.slice MA k mc) RA n rc i w
  rw [show (decide (0 ≤ (i : Int)) && decide ((i : Int) < n)) = true by simp; omega] at h1
  unfold cV at h1
  have K0 := CB.new w #[.int .i64 e, .slice LA n lc, .slice RA n rc, .slice MA k mc, .int .i64 a]
  go_enter Try.func8, Try.ntmps8
  go_wp2_with fail
  refine (h1 _).mono ?_
  rintro en w1 ⟨rfl, b1⟩
  have K1 := Lib.hid (K0.below b1)
  have x0 := K1.out.k0.cell 0
  have x1 := K1.out.k0.cell 1
  clear K0 b1 h1
  go_wp2_with fail
  refine (r_set LA n lc xs i e w1 ((hr.below K1.out.bel).more K1.out.bel.size) hi hn).mono ?_
  rintro en w2 ⟨⟨g, c', rfl, hg, hr2⟩, b2⟩
  have HG : Hid (w.heap.size + 2 ≤ g) := Nat.le_trans K1.out.lt hg
  have K2 := Lib.hid (K1.out.below b2)
  have y1 := K2.out.k0.frozen 1
  have y2 := K2.out.k0.cell 1
  have HR := Lib.hid (hr2.far (Off.fresh (S := fun k => k = w.heap.size) (by have := HG.out; omega)) ((Tch.refl (fun k => k = w.heap.size) w2).setCell (g := w.heap.size) rfl 1 (.slice (some ⟨g, 0, none⟩) n c')))
  have K3 : CB w _ w.heap.size #[.int .i64 e, .slice (some ⟨g, 0, none⟩) n c', .slice RA n rc, .slice MA k mc, .int .i64 a] c0s := K2.out.set0 1 (.slice (some ⟨g, 0, none⟩) n c')
  clear K1 x0 x1 hr hg hr2 b2 K2
  go_wp2_with fail
  obtain ⟨w3, hw3⟩ : ∃ x, (w2.setCell ⟨w.heap.size, 1, none⟩ (.slice (some ⟨g, 0, none⟩) n c')) = x := ⟨_, rfl⟩
  rw [hw3] at K3 HR ⊢
  obtain ⟨⟨z0, z1, z2, z3, z4⟩, ⟨y0, y1, y2, y3, y4⟩, ⟨u0, u1, u2, u3, u4⟩, ⟨v0, v1, v2, v3, v4⟩, f0, f1, f2, f3⟩ := K3.facts
  have K4 := (K3.done (.int .i64 e) (.slice (some ⟨g, 0, none⟩) n c') (.slice RA n rc) (.slice MA k mc) (.int .i64 a)).drewN 1
  have HR4 := Lib.hid (HR.out.far (Off.fresh (S := fun k => k = w.heap.size + 1) (by have := HG.out; omega)) ((put5_tch w3 (w.heap.size + 1) (.int .i64 e) (.slice (some ⟨g, 0, none⟩) n c') (.slice RA n rc) (.slice MA k mc) (.int .i64 a)).drewN 1))
  clear K3 hw3 HR
  go_region_law (fail)
  all_goals
    clear z0 z1 z2 z3 z4 y0 y1 y2 y3 y4 u0 u1 u2 u3 u4 v0 v1 v2 v3 v4 f0 f1 f2 f3
    go_wp2
    change bodyPost _ _ _ _ _ ((put5 w3 (w.heap.size + 1) (.int .i64 e) (.slice (some ⟨g, 0, none⟩) n c') (.slice RA n rc) (.slice MA k mc) (.int .i64 a)).drewN 1)
    obtain ⟨wF, hF⟩ : ∃ x, (put5 w3 (w.heap.size + 1) (.int .i64 e) (.slice (some ⟨g, 0, none⟩) n c') (.slice RA n rc) (.slice MA k mc) (.int .i64 a)).drewN 1 = x := ⟨_, rfl⟩
    rw [hF] at K4 HR4 ⊢
    have m0 := K4.k1.cell 0
    have m1 := K4.k1.cell 1
    have m2 := K4.k1.cell 2
    have m3 := K4.k1.cell 3
    have m4 := K4.k1.cell 4
    refine bodyPost_ret (v := .tuple #[.agg #[.int .i64 e, .slice (some ⟨g, 0, none⟩) n c', .slice RA n rc, .slice MA k mc, .int .i64 a], .int .i64 e]) ?_ rfl ⟨⟨g, c', rfl, by have := HG.out; omega, HR4.out⟩, K4.bel⟩
    simp [results, Try.results8, go_sem, Act.put, m0, m1, m2, m3, m4]
end Go.Proofs.Ytcpgapnikgchaaa
