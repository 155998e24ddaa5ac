/- Refs by ids: New. -/
import Derived.Test.YthcmajeamandfaaIdA
import Derived.Laws.MakeOwn
namespace Go.Proofs.Ythcmajeamandfaa
open Go.RowKit Go.Maps Go.ChangeMaps Go.MapKept
theorem info_mapN : (Try.prog.info? 55).map (fun i => (i.zero, i.size, i.bytes)) = some (some (.map none), 1, 8) := by kernel_rfl
theorem make_mapsN (n : Nat) (hn : n ≤ 1048576) (w : World) : (Instr.makeSlice 52 (.int .i64 (n : Int)) (.int .i64 (n : Int))).run Try.prog w = .ok (.slice (some ⟨w.heap.size, 0, none⟩) n n) (w.alloc (.cells (madeCells #[.map none] n) 55)) := by
  obtain ⟨i, hi, hzz⟩ := Option.map_eq_some_iff.1 info_mapN
  simp only [Prod.mk.injEq] at hzz
  obtain ⟨hz, hs, hb⟩ := hzz
  have hr := run_make (P := Try.prog) w 52 55 i _ Try.underlying52 hi hz .i64 .i64 n n (by omega) (Int.le_refl _) (by rw [hb]; omega) (by omega)
  simp only [Int.toNat_natCast, hs, Nat.mul_one] at hr
  exact hr
theorem made_size (z : Array Value) (n : Nat) : (madeCells z n).size = n := by simp [madeCells]
/-- Shards, as they are made. -/
structure NewI (w w' : World) (sb mp k : Nat) (bs : List Nat) : Prop where
  m : Blk w' mp 54 (idC sb k 0)
  s : ∃ C : Array Value, Blk w' sb 55 C ∧ C.size = k ∧ ∀ i b : Nat, bs[i]? = some b → C[i]? = some (.map (some b))
  nd : bs.Nodup
  r : ∀ b ∈ bs, RfAt w' b 0 [] ∧ mp < b
  b : Below w.heap.size w w'
theorem NewI.step {w w' wN : World} {sb mp k j : Nat} {bs : List Nat} (h : NewI w w' sb mp k bs) (hb : w.heap.size ≤ sb) (hsm : sb < mp) (hj : bs.length = j) (hjk : j < k) (hN : w'.alloc (.map #[] 0) = wN) :
    (∃ v, wN.cell? ⟨sb, j, none⟩ = some v) ∧ wN.frozen? ⟨sb, j, none⟩ = false ∧ NewI w (wN.setCell ⟨sb, j, none⟩ (.map (some w'.heap.size))) sb mp k (bs ++ [w'.heap.size]) := by
  obtain ⟨C, h1, h2, h3⟩ := h.s
  have bN : Below w'.heap.size w' wN := by rw [← hN]; exact bel_boxN _ _
  have k1 := h1.below bN h1.lt
  have m1 := h.m.below bN h.m.lt
  have r1 : RfAt wN w'.heap.size 0 [] := by rw [← hN]; exact ⟨_, World.ownsMap_made w' Try.prog 28 refElem, RefM.nil_⟩
  have hmp := h.m.lt
  have hT : Tch (fun x => x = sb) wN (wN.setCell ⟨sb, j, none⟩ (.map (some w'.heap.size))) := Tch.setCell (S := fun x => x = sb) (Tch.refl _ wN) rfl j _
  have hlast : ∀ b ∈ bs, b < w'.heap.size := fun b hb => (h.r b hb).1.lt
  refine ⟨⟨_, (k1.cell j).trans (Array.getElem?_eq_getElem (by rw [h2]; exact hjk))⟩, k1.frozen j, m1.tch hT (by omega), ⟨_, k1.set_ j _, by rw [Array.size_setIfInBounds]; exact h2, fun i b hi => ?_⟩, ?_, fun b hb' => ?_, ?_⟩
  · by_cases hij : i = j
    · subst hij
      rw [List.getElem?_append_right (by omega), hj, Nat.sub_self] at hi
      simp only [List.getElem?_cons_zero, Option.some.injEq] at hi
      subst hi
      exact Array.getElem?_setIfInBounds_self_of_lt (by rw [h2]; exact hjk)
    · have hil : i < bs.length := by
        have := (List.getElem?_eq_some_iff.1 hi).1
        rw [List.length_append] at this
        simp only [List.length_cons, List.length_nil] at this
        omega
      rw [List.getElem?_append_left hil] at hi
      rw [Array.getElem?_setIfInBounds_ne (fun q => hij q.symm)]
      exact h3 i b hi
  · rw [List.nodup_append]
    exact ⟨h.nd, by simp, fun a ha c hc e => by
      rw [List.mem_singleton] at hc
      have := hlast a ha
      omega⟩
  · rcases List.mem_append.1 hb' with hb' | hb'
    · obtain ⟨q1, q2⟩ := h.r b hb'
      exact ⟨(q1.at_ (bN.block b q1.lt)).at_ (hT.block b (Nat.lt_of_lt_of_le q1.lt bN.size) (by omega)), q2⟩
    · rw [List.mem_singleton] at hb'
      subst hb'
      exact ⟨r1.at_ (hT.block _ r1.lt (by omega)), hmp⟩
  · exact h.b.trans ((bN.mono h.b.size).trans (hT.below (Nat.le_trans h.b.size bN.size) (fun x hx => by omega)))
theorem NewI.done {w w' : World} {sb mp k : Nat} {bs : List Nat} (h : NewI w w' sb mp k bs) (hsm : sb < mp) (hj : bs.length = k) (hk : 0 < k ∧ k ≤ 64) : IdS w' mp sb k 0 bs [] 0 := by
  obtain ⟨C, h1, h2, h3⟩ := h.s
  exact ⟨h.m, fun i b hb => (h1.cell i).trans (h3 i b hb), h1.lt, hj, hk, h.nd, ⟨fun q => by have := (h.r _ q).2; omega, fun q => by have := (h.r _ q).2; omega, by omega⟩, fun i b hb => by have := (h.r b (List.mem_of_getElem? hb)).1; exact this, List.Pairwise.nil⟩
set_option maxRecDepth 100000 in
set_option maxHeartbeats 2000000 in
theorem id_new (k : Nat) (h1 : 1 ≤ k) (h2 : k ≤ 64) (w : World) :
    Calls Try.prog 6 #[.int .i64 ((k : Nat) : Int)] w (fun e w' => ∃ mp sb bs, e = .returned (.tuple #[.pointer (some ⟨mp, 0, none⟩), .int .i64 0]) ∧ IdS w' mp sb k 0 bs [] 0 ∧ Below w.heap.size w w' ∧ ∀ x, idF mp bs x ∨ x = sb → w.heap.size ≤ x) := by
  obtain ⟨w1, hw1⟩ : ∃ x, w.alloc (.cells (madeCells #[.map none] k) 55) = x := ⟨_, rfl⟩
  have hmk : (Instr.makeSlice 52 (.int .i64 (k : Int)) (.int .i64 (k : Int))).run Try.prog w = .ok (.slice (some ⟨w.heap.size, 0, none⟩) k k) w1 := by rw [← hw1]; exact make_mapsN k (by omega) w
  obtain ⟨w2, hw2⟩ : ∃ x, w1.alloc (.cells #[.slice (some ⟨w.heap.size, 0, none⟩) k k, .int .i64 0] 54) = x := ⟨_, rfl⟩
  have e1 : w1.heap.size = w.heap.size + 1 := by rw [← hw1]; simp only [World.alloc, Array.size_push]
  have b1 : Below w.heap.size w w1 := by rw [← hw1]; exact bel_boxN _ _
  have b2 : Below w1.heap.size w1 w2 := by rw [← hw2]; exact bel_boxN _ _
  have k1 : Blk w1 w.heap.size 55 (madeCells #[.map none] k) := by rw [← hw1]; exact Blk.new _ _ _
  have k2 : Blk w2 w1.heap.size 54 (idC w.heap.size k 0) := by rw [← hw2]; exact Blk.new _ _ _
  have HN : Hid (NewI w w2 w.heap.size w1.heap.size k []) := ⟨k2, ⟨_, k1.below b2 k1.lt, made_size _ _, fun i b h => by simp at h⟩, List.nodup_nil, fun b h => by simp at h, b1.trans (b2.mono b1.size)⟩
  have HE := Lib.hid e1
  have t1 : decide ((k : Int) < 1) = false := decide_eq_false (by omega)
  have t2 : decide ((k : Int) > 64) = false := decide_eq_false (by omega)
  have t1n : decide (k < 1) = false := decide_eq_false (by omega)
  have t2n : decide (64 < k) = false := decide_eq_false (by omega)
  have HK : Hid (0 < k ∧ k ≤ 64) := ⟨h1, h2⟩
  clear b1 b2 k1 k2 e1 hw1
  go_enter Try.func6, Try.ntmps6
  go_upto_region 4 with fail
  (try rw [hw2])
  have c0 : w2.cell? ⟨w1.heap.size, 0, none⟩ = some (.slice (some ⟨w.heap.size, 0, none⟩) k k) := HN.out.m.cell 0
  go_upto_region 5 with fail
  go_loopw [5, 21] (fun _ s21 wr => ∃ (j : Nat) (bs : List Nat), j ≤ k ∧ s21 = .int .i64 j ∧ bs.length = j ∧ Hid (NewI w wr w.heap.size w1.heap.size k bs)) (fun _ s21 _ => k - (intOf s21).toNat)
  case atStart => exact ⟨0, [], Nat.zero_le _, rfl, rfl, HN.out⟩
  case round =>
    clear c0 HN
    obtain ⟨j, bs, hj, rfl, hbl, HI⟩ := hrel
    by_cases hlt : j < k
    · obtain ⟨wN, hwN⟩ : ∃ x, wr.alloc (.map #[] 0) = x := ⟨_, rfl⟩
      have hmm : (Instr.makeMap 55 none).run Try.prog wr = .ok (.map (some wr.heap.size)) wN := by rw [← hwN]; exact run_makeMap _ _
      obtain ⟨⟨v0, cj⟩, fj, hst⟩ := HI.out.step (Nat.le_refl _) (by have := HE.out; omega) hbl hlt hwN
      have HS := Lib.hid hst
      have cc : wr.cell? ⟨w1.heap.size, 0, none⟩ = some (.slice (some ⟨w.heap.size, 0, none⟩) k k) := HI.out.m.cell 0
      have hbn : (bs ++ [wr.heap.size]).length = j + 1 := by rw [List.length_append, hbl]; rfl
      have HBN := Lib.hid hbn
      clear hst hwN hbl hbn
      go_wp2_with fail
      go_roundw
      case rel => exact ⟨j + 1, bs ++ [wr.heap.size], by omega, by go_num, HBN.out, HS⟩
      case measure => simp [intOf]; omega
    · obtain rfl : j = k := by omega
      have HD := Lib.hid (HI.out.done (by have := HE.out; omega) hbl HK.out)
      go_wp2_with fail
      go_ret2
      exact ⟨_, _, bs, rfl, HD.out, HI.out.b, fun x hx => by
        have := HE.out
        rcases hx with (rfl | hx) | rfl
        · omega
        · have := (HI.out.r x hx).2; omega
        · exact Nat.le_refl _⟩
set_option maxRecDepth 100000 in
theorem id_newN (n : Int) (hn : n < 1 ∨ 64 < n) (w : World) : Calls Try.prog 6 #[.int .i64 n] w (fun e w' => e = .returned (.tuple #[.pointer none, .int .i64 6]) ∧ w = w') := by
  cases t1 : decide (n < 1)
  · have t2 : decide (n > 64) = true := decide_eq_true (by have := of_decide_eq_false t1; omega)
    go_enter Try.func6, Try.ntmps6
    go_wp2_with fail
    go_ret2
    exact ⟨rfl, rfl⟩
  · go_enter Try.func6, Try.ntmps6
    go_wp2_with fail
    go_ret2
    exact ⟨rfl, rfl⟩
end Go.Proofs.Ythcmajeamandfaa
