/- What may be used again: Free. -/
import Derived.Test.YtgcoecibhonfnaaEpD
import Derived.StillTailTactics
namespace Go.Proofs.Ytgcoecibhonfnaa
open Go.RowKit
set_option maxRecDepth 100000 in
theorem del_nil (d b c bo base : Nat) (e : Int) (w : World) (he0 : 0 ≤ e) (he1 : e ≤ 4611686018427387904)
    (hc : ∀ wx, Tch (outS base bo) w wx → wx.cell? ⟨b, 0, none⟩ = some (.pointer (some ⟨c, 0, none⟩)))
    (he : ∀ wx, Tch (outS base bo) w wx → wx.cell? ⟨c, 0, none⟩ = some (.int .i64 e))
    (ho : OutAt w base bo []) (hbo : bo < base) (hbw : base ≤ w.heap.size) :
    Calls Try.prog 22 #[.slice none 0 d, .func (.func 23) #[] #[.pointer (some ⟨b, 0, none⟩), .pointer (some ⟨bo, 0, none⟩)]] w
      fun en w' => en = .returned (.slice none 0 d) ∧ OutAt w' base bo [] ∧ Tch (outS base bo) w w' := by
  have hi := Lib.hid (idx_free none 0 d b c bo base [] e [] w (fun wx _ => ⟨rfl, fun h => absurd h (by omega)⟩) (by omega) he0 he1 hc he ho hbo hbw (by simp))
  clear hc he ho hbo hbw he0 he1
  go_enter Try.func22, Try.ntmps22
  go_wp2_with fail
  refine hi.out.mono ?_
  rintro en w1 ⟨r, rfl, hf, ht⟩
  rcases hf with ⟨rfl, h1, h2⟩ | ⟨i, him, rfl, h1, h2, h3⟩
  · have H2 := Lib.hid h2
    have HT := Lib.hid ht
    clear h1 h2 ht hi
    go_wp2_with fail
    go_ret
    exact ⟨rfl, H2.out, HT.out⟩
  · omega
/-- What Free touches between its boxes and its end. -/
def freeS (p : EpP) (bo : Nat) (k : Nat) : Prop := p.blk k ∨ k = bo
theorem own_keep {w w' : World} {base t size n : Nat} {v : Value} {xs : List Value} (h : w.ownsRow base t size v n xs) (hk : ∀ k, base ≤ k → k < w.heap.size → w'.heap[k]? = w.heap[k]?) : w'.ownsRow base t size v n xs := by
  refine ⟨h.1, ?_⟩
  rcases h.2 with q | ⟨g, cap, cur, h1, h2, h3, h4⟩
  · exact Or.inl q
  · exact Or.inr ⟨g, cap, cur, h1, h2, (hk g h2 (Array.getElem?_eq_some_iff.1 h3).1).trans h3, h4⟩
theorem own_le {w : World} {base base' t size n : Nat} {v : Value} {xs : List Value} (h : w.ownsRow base t size v n xs) (hb : base' ≤ base) : w.ownsRow base' t size v n xs := by
  refine ⟨h.1, ?_⟩
  rcases h.2 with q | ⟨g, cap, cur, h1, h2, h3⟩
  · exact Or.inl q
  · exact Or.inr ⟨g, cap, cur, h1, Nat.le_trans hb h2, h3⟩
theorem keptN_len (fl : List Int) (e : Int) : ∀ k, ∃ i, (keptN fl e k).length = i * 2 ∧ i ≤ k
  | 0 => ⟨0, rfl, Nat.le_refl _⟩
  | k + 1 => by
    obtain ⟨i, hi, hk⟩ := keptN_len fl e k
    rw [keptN_succ, List.length_append, hi]
    cases ripe fl e k
    · exact ⟨i + 1, by simp; omega, by omega⟩
    · exact ⟨i, by simp, by omega⟩
/-- A clock whose list in limbo is another one, in its old row. -/
theorem EpAt.freed {W w' : World} {base : Nat} {p : EpP} {s : EpS} (h : EpAt W base p s) (fl : List Int) (i : Nat) (hfl : fl.length = i * 2)
    (hc : w'.heap[p.g]? = W.heap[p.g]?) (hw : w'.heap[p.gw]? = W.heap[p.gw]?) (hl : w'.ownsRow base 49 2 (.slice p.B i p.d) i (fl.map (.int .i64))) :
    EpAt (w'.setCell ⟨p.g, 2, none⟩ (.slice p.B i p.d)) base p { s with fl := fl } := by
  have hk : ({ s with fl := fl } : EpS).k = i := by unfold EpS.k; simp [hfl]
  have c2 : Blk w' p.g _ _ := hc.trans h.clk
  obtain ⟨rest, hr⟩ := h.wrk
  refine ⟨?_, ⟨rest, (Below.heap_setCell w' ⟨p.g, 2, none⟩ _ p.gw (by show p.gw ≠ p.g; exact fun e => h.ne e.symm)).trans (hw.trans hr)⟩, ?_, h.gb, h.gwb, h.ne⟩
  · rw [hk]; exact c2.set_ 2 _
  · rw [hk]
    refine hl.kept (row := some p.g) ⟨rfl, rfl, rfl, by simp [World.setCell], fun j _ hj => Below.heap_setCell w' ⟨p.g, 2, none⟩ _ j (by rintro rfl; exact hj rfl)⟩ (Or.inr ?_)
    intro e
    rcases hl.2 with ⟨q1, _⟩ | ⟨g', cap', cur, q1, _, q3, _⟩
    · rw [q1] at e; cases e
    · rw [q1] at e
      injection e with e
      simp only at e
      subst e
      unfold Blk at c2
      rw [c2] at q3
      injection q3 with q3
      injection q3 with _ q3
      exact absurd q3 (by decide)
theorem del_any (p : EpP) (s : EpS) (base b bo : Nat) (W : World) (h : EpAt W base p s) (hk : s.k ≤ 1048576) (he1 : s.ep ≤ 4611686018427387904)
    (hb : W.cell? ⟨b, 0, none⟩ = some (.pointer (some ⟨p.g, 0, none⟩))) (hbp : ¬ p.blk b) (hbb : b ≠ bo) (hop : ¬ p.blk bo) (hol : bo < W.heap.size) (ho : OutAt W W.heap.size bo []) :
    Calls Try.prog 22 #[.slice p.B s.k p.d, .func (.func 23) #[] #[.pointer (some ⟨b, 0, none⟩), .pointer (some ⟨bo, 0, none⟩)]] W
      fun en w' => ∃ i : Nat, en = .returned (.slice p.B i p.d) ∧ w'.cell? ⟨b, 0, none⟩ = some (.pointer (some ⟨p.g, 0, none⟩)) ∧ w'.cell? ⟨p.g, 2, none⟩ = some (.slice p.B s.k p.d) ∧ w'.frozen? ⟨p.g, 2, none⟩ = false ∧
        Hid (EpAt (w'.setCell ⟨p.g, 2, none⟩ (.slice p.B i p.d)) base p { s with fl := keptN s.fl s.ep s.k }) ∧ Hid (OutAt (w'.setCell ⟨p.g, 2, none⟩ (.slice p.B i p.d)) W.heap.size bo (outN s.fl s.ep s.k)) ∧ Hid (Tch (freeS p bo) W (w'.setCell ⟨p.g, 2, none⟩ (.slice p.B i p.d))) := by
  have hbl : b < W.heap.size := World.block_lt_of_cell? _ _ hb
  have hpg := h.clk.lt
  have hog : ¬ bo = p.g := fun e => hop (Or.inl e)
  have hog' : ¬ bo = p.gw := fun e => hop (Or.inr (Or.inl e))
  have hlen : s.fl.length = s.k * 2 := by simpa using h.lim.1
  have hfin : ∀ (i : Nat) (w' : World) (S : Nat → Prop), (∀ k, S k → freeS p bo k ∨ W.heap.size ≤ k) → ¬ S p.g → ¬ S p.gw → ¬ S b → Tch S W w' → (keptN s.fl s.ep s.k).length = i * 2 → w'.ownsRow base 49 2 (.slice p.B i p.d) i ((keptN s.fl s.ep s.k).map (.int .i64)) → OutAt w' W.heap.size bo (outN s.fl s.ep s.k) →
      w'.cell? ⟨b, 0, none⟩ = some (.pointer (some ⟨p.g, 0, none⟩)) ∧ w'.cell? ⟨p.g, 2, none⟩ = some (.slice p.B s.k p.d) ∧ w'.frozen? ⟨p.g, 2, none⟩ = false ∧
        Hid (EpAt (w'.setCell ⟨p.g, 2, none⟩ (.slice p.B i p.d)) base p { s with fl := keptN s.fl s.ep s.k }) ∧ Hid (OutAt (w'.setCell ⟨p.g, 2, none⟩ (.slice p.B i p.d)) W.heap.size bo (outN s.fl s.ep s.k)) ∧ Hid (Tch (freeS p bo) W (w'.setCell ⟨p.g, 2, none⟩ (.slice p.B i p.d))) := by
    intro i w' S hS hSg hSw hSb ht hkl hown hout
    have hcl : Blk w' p.g _ _ := (ht.block p.g hpg hSg).trans h.clk
    refine ⟨(ht.cell (p := ⟨b, 0, none⟩) hbl hSb).trans hb, hcl.cell 2, hcl.frozen 2, h.freed _ i hkl (ht.block p.g hpg hSg) (ht.block p.gw h.wrk.lt hSw) hown, ?_, ?_⟩
    · exact hout.keep fun k hk' _ => Below.heap_setCell w' ⟨p.g, 2, none⟩ _ k (by show k ≠ p.g; rcases hk' with rfl | hk'; exact hog; omega)
    · exact ((Tch.refl (freeS p bo) W).trans ht hS).setCell (Or.inl (Or.inl rfl)) _ _
  rcases h.lim.2 with ⟨h1, h2⟩ | ⟨g, cap, cur, h1, h2, h3, h4, h5, h6, h7⟩
  · injection h1 with hB hn hd
    have hk0 : s.k = 0 := h2
    have e1 : keptN s.fl s.ep s.k = [] := by rw [hk0]; rfl
    have e2 : outN s.fl s.ep s.k = [] := by rw [hk0]; rfl
    have hdel := del_nil p.d b p.g bo W.heap.size s.ep W (by omega) (by omega)
      (fun wx ht => (ht.cell (p := ⟨b, 0, none⟩) hbl (by unfold outS; show ¬ (b = bo ∨ W.heap.size ≤ b); omega)).trans hb)
      (fun wx ht => (ht.cell (p := ⟨p.g, 0, none⟩) hpg (by unfold outS; show ¬ (p.g = bo ∨ W.heap.size ≤ p.g); omega)).trans (h.clk.cell 0)) ho hol (Nat.le_refl _)
    rw [hB, hk0]
    refine hdel.mono ?_
    rintro en w' ⟨rfl, ho', ht⟩
    refine ⟨0, rfl, ?_⟩
    have hq := hfin 0 w' (outS W.heap.size bo) (fun k hs => by rcases hs with hs | hs; exact Or.inl (Or.inr hs); exact Or.inr hs) (by unfold outS; omega) (by have := h.wrk.lt; unfold outS; omega) (by unfold outS; omega) ht (by rw [e1]; rfl)
      (by rw [e1, hB, hd]; exact World.ownsRow_nil _ _ _ _) (by rw [e2]; exact ho')
    rw [hB, hk0] at hq
    exact hq
  · injection h1 with hB _ hd
    have hgl : g < W.heap.size := (Array.getElem?_eq_some_iff.1 h3).1
    have hbg : p.blk g := Or.inr (Or.inr hB)
    have hgb : ¬ g = bo := by rintro rfl; exact hop hbg
    have hgb' : ¬ b = g := by rintro rfl; exact hbp hbg
    obtain ⟨n1, n2⟩ := h.lim_ne
    rw [hB] at n1 n2
    have n1' : ¬ p.g = g := fun e => n1 (by rw [e]; rfl)
    have n2' : ¬ p.gw = g := fun e => n2 (by rw [e]; rfl)
    have hlim := h.lim
    rw [hB, hd] at hlim
    obtain ⟨r1, r2, r3, r4⟩ := RW.of_own hlim
    have hdel := del_free g s.k p.d b p.g bo W.heap.size s.fl s.ep W (by rw [hd]; exact r1) hlen hk (by rw [hd]; exact r3) (by rw [hd]; exact r4) (by omega) (by omega)
      (fun wx ht => (ht.cell (p := ⟨b, 0, none⟩) hbl (by unfold delS outS; show ¬ ((b = bo ∨ W.heap.size ≤ b) ∨ b = g); omega)).trans hb)
      (fun wx ht => (ht.cell (p := ⟨p.g, 0, none⟩) hpg (by unfold delS outS; show ¬ ((p.g = bo ∨ W.heap.size ≤ p.g) ∨ p.g = g); omega)).trans (h.clk.cell 0)) ho hol (Nat.le_refl _) hgl hgb
    rw [hB]
    refine hdel.mono ?_
    rintro en w' ⟨i, hi, rfl, ⟨cur', q1, q2, q3⟩, ho', ht⟩
    refine ⟨i, rfl, ?_⟩
    have hkl : (keptN s.fl s.ep s.k).length = i * 2 := by rw [← q3, List.length_take]; omega
    have hown := q1.to_own (base := base) (i := i) h2 (by rw [hd]; omega) (by rw [hd]; exact r4) q2
    rw [q3] at hown
    have hq := hfin i w' (delS W.heap.size bo g) (fun k hs => by
        rcases hs with (hs | hs) | hs
        · exact Or.inl (Or.inr hs)
        · exact Or.inr hs
        · exact Or.inl (Or.inl (by rw [hs]; exact hbg)))
      (by unfold delS outS; omega) (by have := h.wrk.lt; unfold delS outS; omega) (by unfold delS outS; omega) ht hkl (by rw [hB]; exact hown) ho'
    rw [hB] at hq
    exact hq
theorem ep_free_nil (w : World) :
    Calls Try.prog 12 #[.pointer none] w fun e w' => e = .returned (.slice none 0 0) ∧ Below w.heap.size w w' := by
  have hb0 : Hid (Below w.heap.size w (w.alloc (.cells #[.pointer none] 24))) := (Below.refl _ w).alloc (Nat.le_refl _) _
  go_enter Try.func12, Try.ntmps12
  go_wp2
  go_ret
  exact ⟨rfl, hb0.out⟩
set_option maxRecDepth 100000 in
set_option maxHeartbeats 1000000 in
theorem ep_free (p : EpP) (s : EpS) (base : Nat) (w : World) (h : EpAt w base p s) (hk : s.k ≤ 1048576) (he1 : s.ep ≤ 4611686018427387904) :
    Calls Try.prog 12 #[.pointer (some ⟨p.g, 0, none⟩)] w fun e w' => (∃ O n c, e = .returned (.slice O n c) ∧ w'.ownsRow w.heap.size 3 1 (.slice O n c) n ((outN s.fl s.ep s.k).map (.int .i64))) ∧ EpAt w' base p { s with fl := keptN s.fl s.ep s.k } ∧ Tch p.blk w w' := by
  obtain ⟨w1, hw1⟩ : ∃ w1, w1 = w.alloc (.cells #[.pointer (some ⟨p.g, 0, none⟩)] 24) := ⟨_, rfl⟩
  obtain ⟨w2, hw2⟩ : ∃ w2, w2 = w1.alloc (.cells #[.slice none 0 0] 28) := ⟨_, rfl⟩
  have z1 : w1.heap.size = w.heap.size + 1 := by rw [hw1]; simp only [World.alloc, Array.size_push]
  have z2 : w2.heap.size = w.heap.size + 2 := by rw [hw2]; simp only [World.alloc, Array.size_push]; omega
  have b1 : Below w.heap.size w w1 := by rw [hw1]; exact (Below.refl _ w).alloc (Nat.le_refl _) _
  have b2 : Below w1.heap.size w1 w2 := by rw [hw2]; exact (Below.refl _ w1).alloc (Nat.le_refl _) _
  have k1 : Blk w1 w.heap.size 24 #[.pointer (some ⟨p.g, 0, none⟩)] := by rw [hw1]; exact Blk.new _ _ _
  have k2 : Blk w2 (w.heap.size + 1) 28 #[.slice none 0 0] := by rw [hw2, ← z1]; exact Blk.new _ _ _
  have k1' : Blk w2 w.heap.size 24 #[.pointer (some ⟨p.g, 0, none⟩)] := k1.below b2 (by omega)
  have hat : EpAt w2 base p s := (h.below b1).below b2
  have c1 := k1.cell 0
  have hbl := h.lt
  have hK : Hid (Calls Try.prog 22 #[.slice p.B s.k p.d, .func (.func 23) #[] #[.pointer (some ⟨w.heap.size, 0, none⟩), .pointer (some ⟨w.heap.size + 1, 0, none⟩)]] w2.drew _) :=
    del_any p s base w.heap.size (w.heap.size + 1) w2.drew (hat.drewN 1) hk he1 (k1'.cell 0) (fun q => by have := hbl _ q; omega) (by omega) (fun q => by have := hbl _ q; omega) (by show _ < w2.heap.size; omega)
      ⟨none, 0, 0, k2, World.ownsRow_nil _ _ _ _, rfl⟩
  have d1 : w2.drew.cell? ⟨w.heap.size, 0, none⟩ = some (.pointer (some ⟨p.g, 0, none⟩)) := k1'.cell 0
  have d2 : w2.drew.cell? ⟨p.g, 2, none⟩ = some (.slice p.B s.k p.d) := hat.clk.cell 2
  have B2 := Lib.hid (b1.trans (b2.mono (by omega)))
  have HZ := Lib.hid z2
  clear k1 k1' k2 hat b1 b2 z2 h hk he1 hbl
  rw [hw1] at hw2 c1
  rw [z1] at *
  go_enter Try.func12, Try.ntmps12
  go_wp2_with fail
  rw [← hw2]
  clear hw2 hw1 c1
  go_region_law (go_simp; go_at_call 22; refine hK.out.mono ?_; rintro en w' ⟨i, rfl, q1, q2, q3, q4, q5, q6⟩)
  all_goals
    obtain ⟨O, n, c, o1, o2, o3⟩ := q5.out
    have ck := o1.cell 0
    have O2 := Lib.hid o2
    clear o1 o2 o3
    go_wp2
    go_ret
    refine ⟨⟨_, _, _, rfl, own_le O2.out (by show _ ≤ w2.heap.size; have := HZ.out; omega)⟩, q4.out, ((Tch.of_below B2.out).drewN 1 : Tch p.blk w w2.drew).trans q6.out (fun k hs => ?_)⟩
    rcases hs with hs | hs
    · exact Or.inl hs
    · exact Or.inr (by omega)
end Go.Proofs.Ytgcoecibhonfnaa
