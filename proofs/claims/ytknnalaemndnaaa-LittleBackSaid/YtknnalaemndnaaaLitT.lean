/- Walks: a text read, in the program and in the reference. -/
import Derived.Test.YtknnalaemndnaaaLitR
import Derived.Test.YtknnalaemndnaaaLitX
import Derived.Deep.RegionWith
namespace Go.Proofs.Ytknnalaemndnaaa
open Go.RowKit
theorem rdr_text_bad (g : Nat) (l : List Int) (why : Int) (w : World) (h : RdrAt w g l why) (hz : (why == 0) = false) :
    Calls Try.prog 31 #[.pointer (some ⟨g, 0, none⟩)] w fun e w' => e = .returned (.string (strOfNums [])) ∧ w = w' := by
  go_enter Try.func31, Try.ntmps31
  go_wp2_with (go_at_call 87; refine (lit_fits g l why _ h false hz).mono ?_; rintro e w' ⟨rfl, rfl⟩)
  go_ret
  exact ⟨rfl, rfl⟩
theorem rdr_text_nil (w : World) :
    Calls Try.prog 31 #[.pointer none] w fun e w' => e = .returned (.string (strOfNums [])) ∧ w = w' := by
  go_enter Try.func31, Try.ntmps31
  go_wp2_with (go_at_call 87; refine (lit_fits_nil _).mono ?_; rintro e w' ⟨rfl, rfl⟩)
  go_ret
  exact ⟨rfl, rfl⟩
set_option maxRecDepth 100000 in
set_option maxHeartbeats 4000000 in
theorem rdr_text (g : Nat) (l : List Int) (hl : Bytes l) (hn : l.length ≤ 9223372036854775807) (w : World) (h : RdrAt w g l 0) :
    Calls Try.prog 31 #[.pointer (some ⟨g, 0, none⟩)] w fun e w' => e = .returned (.string (strOfNums (wordOf l).1)) ∧ RdrAt w' g (wordOf l).2.1 (wordOf l).2.2 ∧ w.grownBy w' (some g) := by
  have hbd := numFrom_bd l 0 0
  obtain ⟨n, sz, wy, hnum⟩ : ∃ n sz wy, numOf l = (n, sz, wy) := ⟨_, _, _, rfl⟩
  rw [show numFrom l 0 0 = (n, sz, wy) from hnum] at hbd
  obtain ⟨hsz0, hbad, _⟩ := hbd
  have hsz : sz ≤ l.length := by simpa using hsz0
  have hw : Hid (wordOf l = if wy ≠ 0 then ([], l, wy) else if 65536 < n then ([], l, 9) else if (l.drop sz).length < n then ([], l, 8) else ((l.drop sz).take n, (l.drop sz).drop n, 0)) := by
    show _ = _; rw [wordOf, hnum]
  have HN := Lib.hid hnum
  have HB := Lib.hid hbad
  clear hnum hbad hsz0
  have H := Lib.hid h
  have h0 := h.c0
  have hlt := h.lt
  clear h
  have hss := strOfNums_size l
  have hex : ∀ a, (strOfNums l).extract a l.length = strOfNums (l.drop a) := fun a => by rw [str_extract, ← List.length_drop, List.take_length]
  obtain ⟨rest, hr⟩ : ∃ rest, l.drop sz = rest := ⟨_, rfl⟩
  have hrl : rest.length = l.length - sz := by rw [← hr]; simp
  have hrs : (strOfNums rest).size = rest.length := strOfNums_size rest
  have hrle : rest.length ≤ l.length := by omega
  have hex1 : ∀ a, (strOfNums rest).extract a rest.length = strOfNums (rest.drop a) := fun a => by rw [str_extract, ← List.length_drop, List.take_length]
  have hex2 : ∀ b, (strOfNums rest).extract 0 b = strOfNums (rest.take b) := fun b => by rw [str_extract]; rfl
  rw [hr] at hw
  have HRL := Lib.hid hrl
  clear hrl
  by_cases e1 : wy = 0
  · by_cases e2 : 65536 < n
    · have t1 : ((wy : Int) != 0) = false := by simp [e1]
      have E : Hid (wordOf l = ([], l, 9)) := by show _ = _; rw [hw.out, if_neg (by simpa using e1), if_pos e2]
      clear hw e1
      go_enter Try.func31, Try.ntmps31
      go_wp2_with (first
        | (go_at_call 87; refine (lit_fits g l 0 _ H.out true rfl).mono ?_; rintro e w' ⟨rfl, rfl⟩)
        | (go_at_call 88; refine (lit_number l hl hn _).mono ?_; rw [HN.out]; rintro e w1 ⟨rfl, hb⟩; have H1 := Lib.hid (H.out.below hb hlt); have g0 := H1.out.c0; have g1 := H1.out.c1; have f0 := H1.out.f 0; have f1 := H1.out.f 1))
      go_ret
      exact ⟨by rw [E.out]; rfl, by rw [E.out]; exact H1.out.set1 _, only_setCell (only_of_below hb _) 1 _⟩
    · by_cases e3 : rest.length < n
      · have t1 : ((wy : Int) != 0) = false := by simp [e1]
        have E : Hid (wordOf l = ([], l, 8)) := by show _ = _; rw [hw.out, if_neg (by simpa using e1), if_neg e2, if_pos e3]
        clear hw e1
        go_enter Try.func31, Try.ntmps31
        go_wp2_with (first
          | (go_at_call 87; refine (lit_fits g l 0 _ H.out true rfl).mono ?_; rintro e w' ⟨rfl, rfl⟩)
          | (go_at_call 88; refine (lit_number l hl hn _).mono ?_; rw [HN.out]; rintro e w1 ⟨rfl, hb⟩; have H1 := Lib.hid (H.out.below hb hlt); have g0 := H1.out.c0; have g1 := H1.out.c1; have f0 := H1.out.f 0; have f1 := H1.out.f 1))
        go_ret
        exact ⟨by rw [E.out]; rfl, by rw [E.out]; exact H1.out.set1 _, only_setCell (only_of_below hb _) 1 _⟩
      · have t1 : ((wy : Int) != 0) = false := by simp [e1]
        have E : Hid (wordOf l = (rest.take n, rest.drop n, 0)) := by show _ = _; rw [hw.out, if_neg (by simpa using e1), if_neg e2, if_neg e3]
        have e3' : n ≤ rest.length := by omega
        clear hw e1
        go_enter Try.func31, Try.ntmps31
        go_wp2_with (first
          | (go_at_call 87; refine (lit_fits g l 0 _ H.out true rfl).mono ?_; rintro e w' ⟨rfl, rfl⟩)
          | (go_at_call 88; refine (lit_number l hl hn _).mono ?_; rw [HN.out]; rintro e w1 ⟨rfl, hb⟩; have H1 := Lib.hid (H.out.below hb hlt); have g0 := H1.out.c0; have g1 := H1.out.c1; have f0 := H1.out.f 0; have f1 := H1.out.f 1))
        go_ret
        exact ⟨by rw [E.out]; rfl, by rw [E.out]; exact H1.out.set0 _, only_setCell (only_of_below hb _) 0 _⟩
  · have t1 : ((wy : Int) != 0) = true := by simp; omega
    have E : Hid (wordOf l = ([], l, wy)) := by show _ = _; rw [hw.out, if_pos (by simpa using e1)]
    have e1' : Hid (wy ≠ 0) := e1
    clear hw e1
    go_enter Try.func31, Try.ntmps31
    go_wp2_with (first
      | (go_at_call 87; refine (lit_fits g l 0 _ H.out true rfl).mono ?_; rintro e w' ⟨rfl, rfl⟩)
      | (go_at_call 88; refine (lit_number l hl hn _).mono ?_; rw [HN.out]; rintro e w1 ⟨rfl, hb⟩; have H1 := Lib.hid (H.out.below hb hlt); have g0 := H1.out.c0; have g1 := H1.out.c1; have f0 := H1.out.f 0; have f1 := H1.out.f 1))
    go_ret
    exact ⟨by rw [E.out]; rfl, by rw [E.out]; exact H1.out.set1 _, only_setCell (only_of_below hb _) 1 _⟩
set_option maxRecDepth 100000 in
set_option maxHeartbeats 4000000 in
theorem ref_word_bad (l : List Int) (why : Int) (hz : (why != 0) = true) (w : World) :
    Calls Try.prog 30 #[.agg #[.string (strOfNums l), .int .i64 why]] w fun e w' => e = .returned (.tuple #[.agg #[.string (strOfNums l), .int .i64 why], .string (strOfNums [])]) ∧ Below w.heap.size w w' := by
  go_enter Try.func30, Try.ntmps30
  go_wp2_with (go_at_call 28; refine (ref_next_bad l why hz _).mono ?_; rintro e w1 ⟨rfl, hb⟩; have z1 : w.heap.size + 1 < w1.heap.size := (by have := hb.size; simp at this; omega); have z0 : w.heap.size < w1.heap.size := (by omega); have B0 := Lib.hid (Blk.below (cs := #[.string (strOfNums l), .int .i64 why]) (heap_alloc2_old w _ _) hb (by simp; omega)); have B1 := Lib.hid (Blk.below (heap_alloc2_new w _ _) hb (by simp)); have c00 : w1.cell? ⟨w.heap.size, 0, none⟩ = some (.string (strOfNums l)) := B0.out.cell 0; have f10 := B1.out.frozen 0; have f11 := B1.out.frozen 1; obtain ⟨v0, e0⟩ : ∃ v, w1.cell? ⟨w.heap.size + 1, 0, none⟩ = some v := ⟨_, B1.out.cell 0⟩; obtain ⟨v1, e1⟩ : ∃ v, w1.cell? ⟨w.heap.size + 1, 1, none⟩ = some v := ⟨_, B1.out.cell 1⟩)
  have Z := Lib.hid ((B1.out.set_ 0 (.string (strOfNums l))).set_ 1 (.int .i64 why))
  have k2 := fun o => (Z.out.alloc o).cell 0
  have k3 := fun o => (Z.out.alloc o).cell 1
  refine bodyPost_ret (v := .tuple #[.agg #[.string (strOfNums l), .int .i64 why], .string (strOfNums [])]) (by simp only [results, Try.results30]; simp [go_sem, k2, k3]; rfl) rfl ⟨rfl, ?_⟩
  exact (((((Below.refl w.heap.size w).alloc (Nat.le_refl _) _).alloc (by simp) _).trans (hb.mono (by simp; omega))).setCell (by simp) _ |>.setCell (by simp) _).alloc (by simp [World.setCell]; omega) _
set_option maxRecDepth 100000 in
set_option maxHeartbeats 4000000 in
theorem ref_word (l : List Int) (hl : Bytes l) (hn : l.length ≤ 9223372036854775807) (w : World) :
    Calls Try.prog 30 #[.agg #[.string (strOfNums l), .int .i64 0]] w fun e w' => e = .returned (.tuple #[.agg #[.string (strOfNums (wordOf l).2.1), .int .i64 (wordOf l).2.2], .string (strOfNums (wordOf l).1)]) ∧ Below w.heap.size w w' := by
  have hbd := numFrom_bd l 0 0
  obtain ⟨n, sz, wy, hnum⟩ : ∃ n sz wy, numOf l = (n, sz, wy) := ⟨_, _, _, rfl⟩
  rw [show numFrom l 0 0 = (n, sz, wy) from hnum] at hbd
  obtain ⟨hsz0, hbad, _⟩ := hbd
  have hsz : sz ≤ l.length := by simpa using hsz0
  have hw : Hid (wordOf l = if wy ≠ 0 then ([], l, wy) else if 65536 < n then ([], l, 9) else if (l.drop sz).length < n then ([], l, 8) else ((l.drop sz).take n, (l.drop sz).drop n, 0)) := by
    show _ = _; rw [wordOf, hnum]
  have HN := Lib.hid hnum
  have HB := Lib.hid hbad
  clear hnum hbad hsz0
  have hss := strOfNums_size l
  have hex : ∀ a, (strOfNums l).extract a l.length = strOfNums (l.drop a) := fun a => by rw [str_extract, ← List.length_drop, List.take_length]
  obtain ⟨rest, hr⟩ : ∃ rest, l.drop sz = rest := ⟨_, rfl⟩
  have hrl : rest.length = l.length - sz := by rw [← hr]; simp
  have hrs : (strOfNums rest).size = rest.length := strOfNums_size rest
  have hrle : rest.length ≤ l.length := by omega
  have hex1 : ∀ a, (strOfNums rest).extract a rest.length = strOfNums (rest.drop a) := fun a => by rw [str_extract, ← List.length_drop, List.take_length]
  have hex2 : ∀ b, (strOfNums rest).extract 0 b = strOfNums (rest.take b) := fun b => by rw [str_extract]; rfl
  rw [hr] at hw
  have HRL := Lib.hid hrl
  clear hrl
  by_cases e1 : wy = 0
  · by_cases e2 : 65536 < n
    · have t1 : ((wy : Int) != 0) = false := by simp [e1]
      have E : Hid (wordOf l = ([], l, 9)) := by show _ = _; rw [hw.out, if_neg (by simpa using e1), if_pos e2]
      clear hw
      go_enter Try.func30, Try.ntmps30
      go_wp2_with (go_at_call 28; refine (ref_next l hl hn _).mono ?_; rw [HN.out]; rintro e w1 ⟨rfl, hb⟩; have z1 : w.heap.size + 1 < w1.heap.size := (by have := hb.size; simp at this; omega); have z0 : w.heap.size < w1.heap.size := (by omega); have B0 := Lib.hid (Blk.below (cs := #[.string (strOfNums l), .int .i64 0]) (heap_alloc2_old w _ _) hb (by simp; omega)); have B1 := Lib.hid (Blk.below (heap_alloc2_new w _ _) hb (by simp)); have c00 : w1.cell? ⟨w.heap.size, 0, none⟩ = some (.string (strOfNums l)) := B0.out.cell 0; have f10 := B1.out.frozen 0; have f11 := B1.out.frozen 1; obtain ⟨v0, e0⟩ : ∃ v, w1.cell? ⟨w.heap.size + 1, 0, none⟩ = some v := ⟨_, B1.out.cell 0⟩; obtain ⟨v1, e1⟩ : ∃ v, w1.cell? ⟨w.heap.size + 1, 1, none⟩ = some v := ⟨_, B1.out.cell 1⟩)
      have Z := Lib.hid ((B1.out.set_ 0 (.string (strOfNums l))).set_ 1 (.int .i64 9))
      have k2 := fun o => (Z.out.alloc o).cell 0
      have k3 := fun o => (Z.out.alloc o).cell 1
      refine bodyPost_ret (v := .tuple #[.agg #[.string (strOfNums l), .int .i64 9], .string (strOfNums [])]) (by simp only [results, Try.results30]; simp [go_sem, k2, k3]; try rfl) rfl ⟨by rw [E.out]; rfl, ?_⟩
      exact (((((Below.refl w.heap.size w).alloc (Nat.le_refl _) _).alloc (by simp) _).trans (hb.mono (by simp; omega))).setCell (by simp) _ |>.setCell (by simp) _).alloc (by simp [World.setCell]; omega) _
      
    · by_cases e3 : rest.length < n
      · have t1 : ((wy : Int) != 0) = false := by simp [e1]
        have E : Hid (wordOf l = ([], l, 8)) := by show _ = _; rw [hw.out, if_neg (by simpa using e1), if_neg e2, if_pos e3]
        clear hw
        go_enter Try.func30, Try.ntmps30
        go_wp2_with (go_at_call 28; refine (ref_next l hl hn _).mono ?_; rw [HN.out]; rintro e w1 ⟨rfl, hb⟩; have z1 : w.heap.size + 1 < w1.heap.size := (by have := hb.size; simp at this; omega); have z0 : w.heap.size < w1.heap.size := (by omega); have B0 := Lib.hid (Blk.below (cs := #[.string (strOfNums l), .int .i64 0]) (heap_alloc2_old w _ _) hb (by simp; omega)); have B1 := Lib.hid (Blk.below (heap_alloc2_new w _ _) hb (by simp)); have c00 : w1.cell? ⟨w.heap.size, 0, none⟩ = some (.string (strOfNums l)) := B0.out.cell 0; have f10 := B1.out.frozen 0; have f11 := B1.out.frozen 1; obtain ⟨v0, e0⟩ : ∃ v, w1.cell? ⟨w.heap.size + 1, 0, none⟩ = some v := ⟨_, B1.out.cell 0⟩; obtain ⟨v1, e1⟩ : ∃ v, w1.cell? ⟨w.heap.size + 1, 1, none⟩ = some v := ⟨_, B1.out.cell 1⟩)
        have Z := Lib.hid ((B1.out.set_ 0 (.string (strOfNums l))).set_ 1 (.int .i64 8))
        have k2 := fun o => (Z.out.alloc o).cell 0
        have k3 := fun o => (Z.out.alloc o).cell 1
        refine bodyPost_ret (v := .tuple #[.agg #[.string (strOfNums l), .int .i64 8], .string (strOfNums [])]) (by simp only [results, Try.results30]; simp [go_sem, k2, k3]; try rfl) rfl ⟨by rw [E.out]; rfl, ?_⟩
        exact (((((Below.refl w.heap.size w).alloc (Nat.le_refl _) _).alloc (by simp) _).trans (hb.mono (by simp; omega))).setCell (by simp) _ |>.setCell (by simp) _).alloc (by simp [World.setCell]; omega) _
        
      · have t1 : ((wy : Int) != 0) = false := by simp [e1]
        have E : Hid (wordOf l = (rest.take n, rest.drop n, 0)) := by show _ = _; rw [hw.out, if_neg (by simpa using e1), if_neg e2, if_neg e3]
        have e3' : n ≤ rest.length := by omega
        clear hw
        go_enter Try.func30, Try.ntmps30
        go_wp2_with (go_at_call 28; refine (ref_next l hl hn _).mono ?_; rw [HN.out]; rintro e w1 ⟨rfl, hb⟩; have z1 : w.heap.size + 1 < w1.heap.size := (by have := hb.size; simp at this; omega); have z0 : w.heap.size < w1.heap.size := (by omega); have B0 := Lib.hid (Blk.below (cs := #[.string (strOfNums l), .int .i64 0]) (heap_alloc2_old w _ _) hb (by simp; omega)); have B1 := Lib.hid (Blk.below (heap_alloc2_new w _ _) hb (by simp)); have c00 : w1.cell? ⟨w.heap.size, 0, none⟩ = some (.string (strOfNums l)) := B0.out.cell 0; have f10 := B1.out.frozen 0; have f11 := B1.out.frozen 1; obtain ⟨v0, e0⟩ : ∃ v, w1.cell? ⟨w.heap.size + 1, 0, none⟩ = some v := ⟨_, B1.out.cell 0⟩; obtain ⟨v1, e1⟩ : ∃ v, w1.cell? ⟨w.heap.size + 1, 1, none⟩ = some v := ⟨_, B1.out.cell 1⟩)
        have b1 : (0 : Int) ≤ (n : Int) := by omega
        have b2 : (n : Int) ≤ (rest.length : Int) := by omega
        go_region_with (fail)
        all_goals
          go_wp2
          have Z := Lib.hid ((B1.out.set_ 0 (.string (strOfNums (rest.drop n)))).set_ 1 (.int .i64 0))
          have k2 := fun o => (Z.out.alloc o).cell 0
          have k3 := fun o => (Z.out.alloc o).cell 1
          refine bodyPost_ret (v := .tuple #[.agg #[.string (strOfNums (rest.drop n)), .int .i64 0], .string (strOfNums (rest.take n))]) (by simp only [results, Try.results30]; simp [go_sem, k2, k3]) rfl ⟨by rw [E.out]; rfl, ?_⟩
          exact ((((((Below.refl w.heap.size w).alloc (Nat.le_refl _) _).alloc (by simp) _).trans (hb.mono (by simp; omega))).setCell (by simp) _ |>.setCell (by simp) _).alloc (by simp [World.setCell]; omega) _).drew
  · have t1 : ((wy : Int) != 0) = true := by simp; omega
    have E : Hid (wordOf l = ([], l, wy)) := by show _ = _; rw [hw.out, if_pos (by simpa using e1)]
    clear hw
    go_enter Try.func30, Try.ntmps30
    go_wp2_with (go_at_call 28; refine (ref_next l hl hn _).mono ?_; rw [HN.out]; rintro e w1 ⟨rfl, hb⟩; have z1 : w.heap.size + 1 < w1.heap.size := (by have := hb.size; simp at this; omega); have z0 : w.heap.size < w1.heap.size := (by omega); have B0 := Lib.hid (Blk.below (cs := #[.string (strOfNums l), .int .i64 0]) (heap_alloc2_old w _ _) hb (by simp; omega)); have B1 := Lib.hid (Blk.below (heap_alloc2_new w _ _) hb (by simp)); have c00 : w1.cell? ⟨w.heap.size, 0, none⟩ = some (.string (strOfNums l)) := B0.out.cell 0; have f10 := B1.out.frozen 0; have f11 := B1.out.frozen 1; obtain ⟨v0, e0⟩ : ∃ v, w1.cell? ⟨w.heap.size + 1, 0, none⟩ = some v := ⟨_, B1.out.cell 0⟩; obtain ⟨v1, e1⟩ : ∃ v, w1.cell? ⟨w.heap.size + 1, 1, none⟩ = some v := ⟨_, B1.out.cell 1⟩)
    have Z := Lib.hid ((B1.out.set_ 0 (.string (strOfNums l))).set_ 1 (.int .i64 wy))
    have k2 := fun o => (Z.out.alloc o).cell 0
    have k3 := fun o => (Z.out.alloc o).cell 1
    refine bodyPost_ret (v := .tuple #[.agg #[.string (strOfNums l), .int .i64 wy], .string (strOfNums [])]) (by simp only [results, Try.results30]; simp [go_sem, k2, k3]; try rfl) rfl ⟨by rw [E.out], ?_⟩
    exact (((((Below.refl w.heap.size w).alloc (Nat.le_refl _) _).alloc (by simp) _).trans (hb.mono (by simp; omega))).setCell (by simp) _ |>.setCell (by simp) _).alloc (by simp [World.setCell]; omega) _
    
end Go.Proofs.Ytknnalaemndnaaa
