/- Slots used again: Alloc, Move, Free, State, Gen, Count. -/
import Derived.Test.YthcmajeamandfaaArA
import Derived.WalkSmall
namespace Go.Proofs.Ythcmajeamandfaa
open Go.RowKit
section
variable {w w' : World} {ap sb fb n c : Nat} {st gn : Nat → Int} {fr : List Int} {ct : Nat → Int}
theorem ArS.pop {x : Int} (S : ArS w ap sb fb n c st gn (fr ++ [x]) ct) : ArS (w.setCell ⟨ap, 1, none⟩ (.slice (some ⟨fb, 0, none⟩) fr.length c)) ap sb fb n c st gn fr ct := by
  have hT : Tch (fun x => x = ap) w (w.setCell ⟨ap, 1, none⟩ (.slice (some ⟨fb, 0, none⟩) fr.length c)) := Tch.setCell (S := fun x => x = ap) (Tch.refl _ w) rfl _ _
  refine ⟨?_, ?_, ownsRow_tch ?_ hT (fun k hk q => by injection hk with hk; subst hk; exact S.ne.2.1 q.symm), S.ne, S.n0⟩
  · exact S.a.set_ 1 _
  · obtain ⟨C, h1, h2⟩ := S.s
    exact ⟨C, h1.tch hT (fun q => S.ne.1 q.symm), h2⟩
  · have := S.f
    rw [List.length_append, List.length_singleton, List.map_append] at this
    exact ownsRow_pop (by simp) this
theorem ArS.frc {x : Int} (S : ArS w ap sb fb n c st gn (fr ++ [x]) ct) : w.cell? ⟨fb, fr.length, none⟩ = some (.int .i64 x) := by
  have h := Rd.of_own S.f
  obtain ⟨b, o, u, e, _, hu, hc⟩ := h.at_ (k := fr.length) (by rw [List.length_append]; simp)
  injection e with e
  injection e with e1 e2
  subst e1
  subst e2
  rw [List.map_append, List.getElem?_append_right (by simp), List.length_map, Nat.sub_self] at hu
  simp only [List.map_cons, List.map_nil, List.getElem?_cons_zero, Option.some.injEq] at hu
  subst hu
  simpa using hc
theorem ArS.frl (S : ArS w ap sb fb n c st gn fr ct) : fr.length ≤ c ∧ c ≤ maxLen := by
  rcases S.f.2 with ⟨q, _⟩ | ⟨g, cap, cur, ev, _, _, h1, h2, _⟩
  · cases q
  · injection ev with _ _ e
    subst e
    exact ⟨h1, h2⟩
end
set_option maxRecDepth 100000 in
theorem ar_alloc {w : World} {ap sb fb n c : Nat} {st gn : Nat → Int} {fr : List Int} {ct : Nat → Int} (k : Nat) (S : ArS w ap sb fb n c st gn (fr ++ [((k : Nat) : Int)]) ct) (h1 : 1 ≤ k) (hk : k ≤ n) (hs : st k = 0) (hc1 : 1 ≤ ct 0 ∧ ct 0 ≤ 1048576) (hc2 : 0 ≤ ct 1 ∧ ct 1 ≤ 1048576) (hl : fr.length ≤ 1048576) :
    Calls Try.prog 15 #[.pointer (some ⟨ap, 0, none⟩)] w (fun e w' => e = .returned (.tuple #[refV ⟨0, ((k : Nat) : Int), gn k⟩, .bool true]) ∧ ArS w' ap sb fb n c (upA st k 1) gn fr (upA (upA ct 0 (ct 0 - 1)) 1 (ct 1 + 1)) ∧ Tch (arF ap sb fb) w w') := by
  obtain ⟨w1, hw1⟩ : ∃ x, w.alloc (.cells #[.int .i64 0, .int .i64 0] 32) = x := ⟨_, rfl⟩
  have b1 : Below w.heap.size w w1 := by rw [← hw1]; exact bel_boxN _ _
  have k1 : Blk w1 w.heap.size 32 ref0 := by rw [← hw1]; exact Blk.new _ _ _
  have S1 := S.below b1
  have hbx : ¬ arF ap sb fb w.heap.size := fun q => by
    have h1 := S.a.lt
    obtain ⟨C, h2, _⟩ := S.s
    have h2 := h2.lt
    have h3 := (S.f.lt fb rfl).2
    rcases q with q | q | q <;> omega
  obtain ⟨m, hm⟩ : ∃ m, fr.length = m := ⟨_, rfl⟩
  have c1 : w1.cell? ⟨ap, 1, none⟩ = some (.slice (some ⟨fb, 0, none⟩) (m + 1) c) := by
    have h : w1.cell? ⟨ap, 1, none⟩ = some (.slice (some ⟨fb, 0, none⟩) (fr ++ [((k : Nat) : Int)]).length c) := S1.a.cell 1
    rw [List.length_append, List.length_singleton, hm] at h
    exact h
  have f1 : w1.frozen? ⟨ap, 1, none⟩ = false := S1.a.frozen _
  have cm := S1.frc
  rw [hm] at cm
  have hmc : m + 1 ≤ c ∧ c ≤ maxLen := by have := S1.frl; rw [List.length_append, List.length_singleton, hm] at this; exact this
  obtain ⟨w2, hw2⟩ : ∃ q, w1.setCell ⟨ap, 1, none⟩ (.slice (some ⟨fb, 0, none⟩) m c) = q := ⟨_, rfl⟩
  have S2 := S1.pop
  rw [hm, hw2] at S2
  have hT2 : Tch (arF ap sb fb) w w2 := by rw [← hw2]; exact Tch.setCell (S := arF ap sb fb) (Tch.of_below b1) (.inl rfl) _ _
  have k2 := k1.tch (S := arF ap sb fb) (w' := w2) (by rw [← hw2]; exact Tch.setCell (S := arF ap sb fb) (Tch.refl _ w1) (.inl rfl) _ _) hbx
  have HK2 := Lib.hid k2
  have HT2 := Lib.hid hT2
  have HB := Lib.hid hbx
  have HA := Lib.hid (ar_at S2 k h1 hk)
  have HS := Lib.hid (ar_set S2 k hk 0 1 1 rfl hs (by decide) (by decide) (by decide) hc1 hc2)
  have HK := Lib.hid hk
  have HZ := Lib.hid b1.size
  have HC := Lib.hid hmc.2
  have hmc1 := hmc.1
  have q1 : m ≤ c := by omega
  have q2 : ((m : Nat) : Int) ≤ ((c : Nat) : Int) := by omega
  have t0 : decide (m + 1 = 0) = false := decide_eq_false (by omega)
  have t1 : decide (((m + 1 : Nat) : Int) = 0) = false := decide_eq_false (by omega)
  have e1 : wrap64 ((m : Nat) : Int) = ((m : Nat) : Int) := by unfold wrap64; omega
  clear S S1 S2 b1 k1 k2 hT2 hbx hm hs hc1 hc2 hl hmc
  go_enter Try.func15, Try.ntmps15
  go_upto_region 1 with fail
  (try rw [hw1])
  clear hw1
  go_upto_region 6 with fail
  (try rw [hw2])
  clear hw2 c1 f1 cm
  go_upto_region 8 with (first
    | (go_at_call 24; (with_reducible refine HA.out.mono ?_); rintro e w2' ⟨rfl, rfl⟩)
    | (go_at_call 25; (with_reducible refine HS.out.mono ?_); rintro e w3 ⟨rfl, hS3, hT3⟩; have HS3 := Lib.hid hS3; have HT3 := Lib.hid hT3; clear hS3 hT3))
  have cg := HS3.out.gnc HK.out
  have k3 := HK2.out.tch HT3.out HB.out
  have SR : (Instr.storeAt 32 (.pointer (some ⟨w.heap.size, 0, none⟩)) (refV ⟨0, ((k : Nat) : Int), gn k⟩)).run Try.prog w3 = .ok () _ := row_store k3 (refC ⟨0, ((k : Nat) : Int), gn k⟩) rfl refTN (by simp [refC, Value.oneCell'])
  obtain ⟨V, hV⟩ : ∃ V, w3.setCells w.heap.size 0 (refC ⟨0, ((k : Nat) : Int), gn k⟩).toList = V := ⟨_, rfl⟩
  rw [hV] at SR
  have HV : Hid (Blk V w.heap.size 32 (refC ⟨0, ((k : Nat) : Int), gn k⟩)) := by show Blk _ _ _ _; rw [← hV]; exact k3.put _ rfl
  have hTV : Tch (fun x => x = w.heap.size) w3 V := by rw [← hV]; exact Tch.setCells (S := fun x => x = w.heap.size) rfl _ _ w3 (Tch.refl _ w3)
  have HTV := Lib.hid hTV
  clear hV k3 hTV
  unfold refV at SR
  go_wp2_with (refine wpList_storeE SR _ _ rfl rfl rfl rfl ?_)
  refine bodyPost_ret (v := .tuple #[refV ⟨0, ((k : Nat) : Int), gn k⟩, .bool true]) ?_ rfl ⟨rfl, HS3.out.keep HTV.out (fun x hx q => HB.out (hx ▸ q)), (HT2.out.trans HT3.out (fun _ h => .inl h)).trans HTV.out (fun x hx => .inr (Nat.le_of_eq hx.symm))⟩
  exact results_row11N (P := Try.prog) Try.results15 _ rfl HV.out Try.underlying32 rfl refTN
set_option maxRecDepth 100000 in
theorem ar_allocN {w : World} {ap sb fb n c : Nat} {st gn : Nat → Int} {ct : Nat → Int} (S : ArS w ap sb fb n c st gn [] ct) :
    Calls Try.prog 15 #[.pointer (some ⟨ap, 0, none⟩)] w (fun e w' => e = .returned (.tuple #[refV ⟨0, 0, 0⟩, .bool false]) ∧ Below w.heap.size w w') := by
  obtain ⟨w1, hw1⟩ : ∃ x, w.alloc (.cells #[.int .i64 0, .int .i64 0] 32) = x := ⟨_, rfl⟩
  have b1 : Below w.heap.size w w1 := by rw [← hw1]; exact bel_boxN _ _
  have k1 : Blk w1 w.heap.size 32 ref0 := by rw [← hw1]; exact Blk.new _ _ _
  have S1 := S.below b1
  have c1 : w1.cell? ⟨ap, 1, none⟩ = some (.slice (some ⟨fb, 0, none⟩) 0 c) := S1.a.cell 1
  have SR : (Instr.storeAt 32 (.pointer (some ⟨w.heap.size, 0, none⟩)) (refV ⟨0, 0, 0⟩)).run Try.prog w1 = .ok () _ := row_store k1 (refC ⟨0, 0, 0⟩) rfl refTN (by simp [refC, Value.oneCell'])
  obtain ⟨V, hV⟩ : ∃ V, w1.setCells w.heap.size 0 (refC ⟨0, 0, 0⟩).toList = V := ⟨_, rfl⟩
  rw [hV] at SR
  have HV : Hid (Blk V w.heap.size 32 (refC ⟨0, 0, 0⟩)) := by show Blk _ _ _ _; rw [← hV]; exact k1.put _ rfl
  have HB : Hid (Below w.heap.size w V) := by
    show Below _ _ _
    rw [← hV]
    exact b1.trans ((Tch.setCells (S := fun k => k = w.heap.size) rfl _ _ w1 (Tch.refl _ w1)).below b1.size (fun k hk => Nat.le_of_eq hk.symm))
  unfold refV at SR
  clear S S1 b1 k1 hV
  go_enter Try.func15, Try.ntmps15
  go_upto_region 1 with fail
  (try rw [hw1])
  clear hw1
  go_wp2_with (refine wpList_storeE SR _ _ rfl rfl rfl rfl ?_)
  refine bodyPost_ret (v := .tuple #[refV ⟨0, 0, 0⟩, .bool false]) ?_ rfl ⟨rfl, HB.out⟩
  exact results_row11N (P := Try.prog) Try.results15 _ rfl HV.out Try.underlying32 rfl refTN
set_option maxRecDepth 100000 in
theorem ar_move {w : World} {ap sb fb n c : Nat} {st gn : Nat → Int} {fr : List Int} {ct : Nat → Int} (S : ArS w ap sb fb n c st gn fr ct) (k : Nat) (h1 : 1 ≤ k) (hk : k ≤ n) (j : Nat) (hs : st k = (j : Int)) (hj0 : 1 ≤ j) (hj : j ≤ 3) (hc1 : 1 ≤ ct j ∧ ct j ≤ 1048576) (hc2 : 0 ≤ ct (j + 1) ∧ ct (j + 1) ≤ 1048576) (t : Int) (ht : t = ((j + 1 : Nat) : Int)) :
    Calls Try.prog 13 #[.pointer (some ⟨ap, 0, none⟩), .int .i64 ((k : Nat) : Int), .int .i64 t] w (fun e w' => e = .returned (.bool true) ∧ ArS w' ap sb fb n c (upA st k t) gn fr (upA (upA ct j (ct j - 1)) (j + 1) (ct (j + 1) + 1)) ∧ Tch (arF ap sb fb) w w') := by
  have cs : w.cell? ⟨sb, k * 2, none⟩ = some (.int .i64 (j : Int)) := by rw [S.stc hk, hs]
  have HA := Lib.hid (ar_at S k h1 hk)
  have HS := Lib.hid (ar_set S k hk j (j + 1) t ht hs (by omega) (by omega) (by omega) hc1 hc2)
  clear S hs hc1 hc2
  obtain rfl | rfl | rfl : j = 1 ∨ j = 2 ∨ j = 3 := by omega
  all_goals
    obtain rfl : t = _ := ht
    clear hj hj0
    go_enter Try.func13, Try.ntmps13
    go_wp2_with (first
      | (go_at_call 24; (with_reducible refine HA.out.mono ?_); rintro e w2' ⟨rfl, rfl⟩)
      | (go_at_call 25; (refine HS.out.mono ?_); rintro e w3 ⟨rfl, hS3, hT3⟩; have HS3 := Lib.hid hS3; have HT3 := Lib.hid hT3; clear hS3 hT3))
    go_ret
    exact ⟨rfl, HS3.out, HT3.out⟩
set_option maxRecDepth 100000 in
theorem ar_state {w : World} {ap sb fb n c : Nat} {st gn : Nat → Int} {fr : List Int} {ct : Nat → Int} (S : ArS w ap sb fb n c st gn fr ct) (k : Nat) (h1 : 1 ≤ k) (hk : k ≤ n) :
    Calls Try.prog 16 #[.pointer (some ⟨ap, 0, none⟩), .int .i64 ((k : Nat) : Int)] w (fun e w' => e = .returned (.int .i64 (st k)) ∧ w = w') := by
  have cs := S.stc hk
  have HA := Lib.hid (ar_at S k h1 hk)
  clear S
  go_enter Try.func16, Try.ntmps16
  go_wp2_with (go_at_call 24; (with_reducible refine HA.out.mono ?_); rintro e w2' ⟨rfl, rfl⟩)
  go_ret
  exact ⟨rfl, rfl⟩
set_option maxRecDepth 100000 in
theorem ar_gen {w : World} {ap sb fb n c : Nat} {st gn : Nat → Int} {fr : List Int} {ct : Nat → Int} (S : ArS w ap sb fb n c st gn fr ct) (k : Nat) (h1 : 1 ≤ k) (hk : k ≤ n) :
    Calls Try.prog 17 #[.pointer (some ⟨ap, 0, none⟩), .int .i64 ((k : Nat) : Int)] w (fun e w' => e = .returned (.int .i64 (gn k)) ∧ w = w') := by
  have cs := S.gnc hk
  have HA := Lib.hid (ar_at S k h1 hk)
  clear S
  go_enter Try.func17, Try.ntmps17
  go_wp2_with (go_at_call 24; (with_reducible refine HA.out.mono ?_); rintro e w2' ⟨rfl, rfl⟩)
  go_ret
  exact ⟨rfl, rfl⟩
set_option maxRecDepth 100000 in
theorem ar_count0 {w : World} {ap sb fb n c : Nat} {st gn : Nat → Int} {fr : List Int} {ct : Nat → Int} (S : ArS w ap sb fb n c st gn fr ct) :
    Calls Try.prog 18 #[.pointer (some ⟨ap, 0, none⟩), .int .i64 0] w (fun e w' => e = .returned (.int .i64 (ct 0)) ∧ w = w') := by
  have cs := S.cnt (j := 0) (by decide)
  clear S
  go_enter Try.func18, Try.ntmps18
  go_wp2_with fail
  go_ret
  exact ⟨rfl, rfl⟩
set_option maxRecDepth 100000 in
theorem ar_count2 {w : World} {ap sb fb n c : Nat} {st gn : Nat → Int} {fr : List Int} {ct : Nat → Int} (S : ArS w ap sb fb n c st gn fr ct) :
    Calls Try.prog 18 #[.pointer (some ⟨ap, 0, none⟩), .int .i64 2] w (fun e w' => e = .returned (.int .i64 (ct 2)) ∧ w = w') := by
  have cs := S.cnt (j := 2) (by decide)
  clear S
  go_enter Try.func18, Try.ntmps18
  go_wp2_with fail
  go_ret
  exact ⟨rfl, rfl⟩
theorem ArS.push {w w' : World} {ap sb fb n c c' g : Nat} {st gn : Nat → Int} {fr : List Int} {ct : Nat → Int} {x : Int} (S : ArS w ap sb fb n c st gn fr ct) (hg : w.grownBy w' (some fb)) (hat : g = fb ∨ w.heap.size ≤ g) (ho : w'.ownsRow 0 3 1 (.slice (some ⟨g, 0, none⟩) (fr.length + 1) c') (fr.length + 1) ((fr ++ [x]).map (.int .i64))) :
    ArS (w'.setCell ⟨ap, 1, none⟩ (.slice (some ⟨g, 0, none⟩) (fr.length + 1) c')) ap sb g n c' st gn (fr ++ [x]) ct := by
  have hT := grownBy_tch hg
  have hlt := S.a.lt
  have hgap : ap ≠ g := by rcases hat with rfl | q; exact S.ne.2.1; omega
  have hgsb : sb ≠ g := by
    obtain ⟨C, h1, _⟩ := S.s
    have := h1.lt
    rcases hat with rfl | q; exact S.ne.2.2; omega
  have ka := S.a.tch hT (fun q => S.ne.2.1 (by injection q))
  have hT2 : Tch (fun x => x = ap) w' (w'.setCell ⟨ap, 1, none⟩ (.slice (some ⟨g, 0, none⟩) (fr.length + 1) c')) := Tch.setCell (S := fun x => x = ap) (Tch.refl _ w') rfl _ _
  refine ⟨?_, ?_, ?_, ⟨S.ne.1, hgap, hgsb⟩, S.n0⟩
  · have := ka.set_ 1 (.slice (some ⟨g, 0, none⟩) (fr.length + 1) c')
    rw [List.length_append, List.length_singleton]
    exact this
  · obtain ⟨C, h1, h2⟩ := S.s
    exact ⟨C, (h1.tch hT (fun q => S.ne.2.2 (by injection q))).tch hT2 (fun q => S.ne.1 q.symm), h2⟩
  · rw [List.length_append, List.length_singleton]
    exact ownsRow_tch ho hT2 (fun k hk q => by injection hk with hk; subst hk; exact hgap q.symm)
theorem info_intA : (Try.prog.info? 3).map (fun i => (i.zero, i.size, i.bytes)) = some (some (.int .i64 0), 1, 8) := by kernel_rfl
theorem run_intN (w : World) (z : Int) : (Instr.buildSlice 49 1 #[(0, .int .i64 z)]).run Try.prog w = .ok (.slice (some ⟨w.heap.size, 0, none⟩) 1 1) (w.alloc (.cells #[.int .i64 z] 3)) := by
  obtain ⟨i, hi, hz, hz1, hz2⟩ := info_parts info_intA
  refine Go.run_buildSlice w _ _ 1 _ _ i (.int .i64 0) Try.underlying49 hi hz (by rw [hz1]; decide) (by rw [hz1]; decide) ?_
  rw [hz1]; kernel_rfl
set_option maxRecDepth 100000 in
theorem ar_free {w : World} {ap sb fb n c : Nat} {st gn : Nat → Int} {fr : List Int} {ct : Nat → Int} (S : ArS w ap sb fb n c st gn fr ct) (k : Nat) (h1 : 1 ≤ k) (hk : k ≤ n) (j : Nat) (hs : st k = (j : Int)) (hj : j = 1 ∨ j = 4) (hc1 : 1 ≤ ct j ∧ ct j ≤ 1048576) (hc2 : 0 ≤ ct 0 ∧ ct 0 ≤ 1048576) (hg : 0 ≤ gn k ∧ gn k ≤ 1048576) (hl : fr.length ≤ 1048576) :
    Calls Try.prog 14 #[.pointer (some ⟨ap, 0, none⟩), .int .i64 ((k : Nat) : Int)] w (fun e w' => e = .returned (.bool true) ∧ (∃ g c', ArS w' ap sb g n c' (upA st k 0) (upA gn k (gn k + 1)) (fr ++ [((k : Nat) : Int)]) (upA (upA ct j (ct j - 1)) 0 (ct 0 + 1)) ∧ (g = fb ∨ w.heap.size ≤ g)) ∧ Tch (arF ap sb fb) w w') := by
  have cs : w.cell? ⟨sb, k * 2, none⟩ = some (.int .i64 (j : Int)) := by rw [S.stc hk, hs]
  have HA := Lib.hid (ar_at S k h1 hk)
  have HS := Lib.hid (ar_set S k hk j 0 0 rfl hs (by omega) (by decide) (by omega) hc1 hc2)
  have HK := Lib.hid hk
  have HL := Lib.hid hl
  have HZ := Lib.hid S.a.lt
  obtain ⟨gk, hgk⟩ : ∃ q, gn k = q := ⟨_, rfl⟩
  rw [hgk] at hg
  have w64 : wrap64 (gk + 1) = gk + 1 := by unfold wrap64; omega
  have HGK := Lib.hid hgk
  clear S hc1 hc2 hgk hg hl
  rcases hj with rfl | rfl
  all_goals
    go_enter Try.func14, Try.ntmps14
    go_upto_region 5 with (first
      | (go_at_call 24; (with_reducible refine HA.out.mono ?_); rintro e w2' ⟨rfl, rfl⟩)
      | (go_at_call 25; (with_reducible refine HS.out.mono ?_); rintro e w3 ⟨rfl, hS3, hT3⟩; have HS3 := Lib.hid hS3; have HT3 := Lib.hid hT3; clear hS3 hT3))
    have cg := HS3.out.gnc HK.out
    rw [HGK.out] at cg
    have fg : w3.frozen? ⟨sb, k * 2 + 1, none⟩ = false := HS3.out.sfz _
    obtain ⟨w4, hw4⟩ : ∃ q, w3.setCell ⟨sb, k * 2 + 1, none⟩ (.int .i64 (gk + 1)) = q := ⟨_, rfl⟩
    have hS4 := HS3.out.setG HK.out (gk + 1)
    rw [hw4] at hS4
    have HS4 := Lib.hid hS4
    have HT4 : Hid (Tch (arF ap sb fb) w w4) := by
      show Tch _ _ _
      rw [← hw4]
      exact Tch.setCell (S := arF ap sb fb) HT3.out (.inr (.inl rfl)) _ _
    clear hS4
    go_upto_region 6 with fail
    (try rw [hw4])
    have c1 : w4.cell? ⟨ap, 1, none⟩ = some (.slice (some ⟨fb, 0, none⟩) fr.length c) := HS4.out.a.cell 1
    have hbs := run_intN w4 ((k : Nat) : Int)
    have hlen : fr.length ≤ 1099511627776 := Nat.le_trans HL.out (by decide)
    clear cs cg fg hw4
    go_wp2_with (at_builtin; refine wpList_push1 rfl (.tmp 39) (.tmp 41) 49 3 1 8 _ rfl Try.underlying49 info_intA rfl (by decide) w4 0 _ fr.length _ #[.int .i64 ((k : Nat) : Int)] rfl HS4.out.f rfl rfl (by simp [Value.oneCell']) hlen (by decide) (Nat.zero_le _) ?_; intro g2 c4 W5 ho hgr hb hat; replace ho := Lib.hid ho; replace hgr := Lib.hid hgr; replace hat := Lib.hid hat; clear hb; have fa : W5.frozen? ⟨ap, 1, none⟩ = false := (HS4.out.a.tch (grownBy_tch hgr.out) (fun q => HS4.out.ne.2.1 (by injection q))).frozen _; have ca : W5.cell? ⟨ap, 1, none⟩ = some (.slice (some ⟨fb, 0, none⟩) fr.length c) := (HS4.out.a.tch (grownBy_tch hgr.out) (fun q => HS4.out.ne.2.1 (by injection q))).cell 1)
    go_ret
    have hat2 : g2 = fb ∨ w4.heap.size ≤ g2 := hat.out.imp_left fun q => by injection q with q; exact q.symm
    rw [HGK.out]
    refine ⟨rfl, ⟨g2, ⟨c4, HS4.out.push hgr.out hat2 (by have := ho.out; rw [List.map_append]; exact this)⟩, hat2.imp_right fun q => Nat.le_trans HT4.out.size q⟩, ?_⟩
    exact Tch.setCell (S := arF ap sb fb) (HT4.out.trans (grownBy_tch hgr.out) (fun x hx => .inl (by injection hx with hx; exact .inr (.inr hx)))) (.inl rfl) _ _
end Go.Proofs.Ythcmajeamandfaa
