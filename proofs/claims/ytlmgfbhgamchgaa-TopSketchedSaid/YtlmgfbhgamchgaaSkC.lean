/- Sketches: the nearest of two; whether two vectors are one. -/
import Derived.Test.YtlmgfbhgamchgaaSkB
namespace Go.Proofs.Ytlmgfbhgamchgaa
open Go.RowKit
open Go.Sort hiding Below
def sameV (xs ys : List Int) : Bool := decide (xs = ys)
set_option maxHeartbeats 400000 in
theorem eq_vecs {w : World} {A B : Option Addr} {n m c d : Nat} {xs ys : List Int} (hx : VArg w A n c xs) (hy : VArg w B m d ys) :
    Calls Try.prog 24 #[.slice A n c, .slice B m d] w fun e w' => e = .returned (.bool (sameV xs ys)) ∧ ∃ q, w' = w.drewN q := by
  have lx := hx.rd.lenI
  have ly := hy.rd.lenI
  have hn := hx.small
  have hm := hy.small
  by_cases hl : n = m
  · subst hl
    have HX := Lib.hid hx.rd
    have HY := Lib.hid hy.rd
    have LX := Lib.hid lx
    have LY := Lib.hid ly
    clear hx hy lx ly
    go_enter Try.func24, Try.ntmps24
    go_wp2
    go_loopw [13] (fun i wr => ∃ k : Nat, k ≤ n ∧ i = .int .i64 k ∧ (∃ q, wr = w.drewN q) ∧ Hid (∀ j, j < k → ig xs j = ig ys j)) (fun i _ => n - (intOf i).toNat)
    case atStart => exact ⟨0, Nat.zero_le _, rfl, ⟨0, rfl⟩, fun j hj => by omega⟩
    case round =>
      obtain ⟨k, hk, rfl, ⟨q, rfl⟩, hv⟩ := hrel
      by_cases hlt : k < n
      · obtain ⟨b, o, rfl, hb, hc⟩ := HX.out.atI hlt
        obtain ⟨b', o', rfl, hb', hc'⟩ := HY.out.atI hlt
        by_cases he : ig xs k = ig ys k
        · have h1 : (ig xs k != ig ys k) = false := by simp [he]
          have HE := Lib.hid he
          clear he
          go_wp2
          go_quiet (fail)
          go_wp2
          go_roundw
          case rel => exact ⟨k + 1, hlt, by go_num, ⟨q + nq, rfl⟩, fun j hj => by
            by_cases e : j = k
            · rw [e]; exact HE.out
            · exact hv.out j (by omega)⟩
          case measure => simp [intOf]; omega
        · have h1 : (ig xs k != ig ys k) = true := by simp [he]
          have HF : Hid (sameV xs ys = false) := by
            show _ = _
            refine decide_eq_false fun e => he (by rw [e])
          clear he
          go_wp2
          go_quiet (fail)
          go_wp2
          go_ret
          exact ⟨by rw [HF.out]; rfl, q + nq, by rw [World.drewN_drewN]⟩
      · obtain rfl : k = n := by omega
        have HT : Hid (sameV xs ys = true) := by
          show _ = _
          refine decide_eq_true (List.ext_getElem (by rw [LX.out, LY.out]) fun j h1 h2 => ?_)
          have := hv.out j (by have := LX.out; omega)
          simpa [ig, List.getD_eq_getElem?_getD, h1, h2] using this
        go_wp2
        go_ret
        exact ⟨by rw [HT.out]; rfl, q, rfl⟩
  · have h1 : ((n : Int) != (m : Int)) = true := by simp; omega
    have HF : Hid (sameV xs ys = false) := by
      show _ = _
      refine decide_eq_false fun e => hl (by rw [← lx, ← ly, e])
    clear hx hy lx ly hn hm hl
    go_enter Try.func24, Try.ntmps24
    go_wp2
    go_ret
    exact ⟨by rw [HF.out]; rfl, 0, rfl⟩
theorem vec_same {w : World} {A B : Option Addr} {n m c d : Nat} {xs ys : List Int} (hx : VArg w A n c xs) (hy : VArg w B m d ys) :
    Calls Try.prog 7 #[.slice A n c, .slice B m d] w fun e w' => e = .returned (.bool (sameV xs ys)) ∧ ∃ q, w' = w.drewN q := by
  have h := Lib.hid (eq_vecs hx hy)
  go_enter Try.func7, Try.ntmps7
  go_wp2_with fail
  refine h.out.mono ?_
  rintro e w' ⟨rfl, q, rfl⟩
  go_wp2_with fail
  go_ret
  exact ⟨rfl, q, rfl⟩
theorem apN_bd (p q : Nat → Bool) : apN p q ≤ 4096 := lst_len _ _
theorem make_far2 (w : World) : (Instr.makeSlice 59 (.int .i64 2) (.int .i64 2)).run Try.prog w = .ok (.slice (some ⟨w.heap.size, 0, none⟩) 2 2) (w.alloc (.cells #[.int .i64 0, .int .i64 0, .int .i64 0, .int .i64 0] 61)) := by
  have hi : (Try.prog.info? 61).map (fun i => (i.zero, i.size, i.bytes)) = some (some (.agg #[.int .i64 0, .int .i64 0]), 2, 16) := by kernel_rfl
  obtain ⟨i, h1, h2, h3, h4⟩ := info_parts hi
  have := run_make (P := Try.prog) w 59 61 i (.agg #[.int .i64 0, .int .i64 0]) Try.underlying59 h1 h2 .i64 .i64 2 2 (by decide) (by decide) (by rw [h4]; decide) (by decide)
  have e : madeCells (Value.agg #[.int .i64 0, .int .i64 0]).cells (Int.toNat 2 * 2) = #[.int .i64 0, .int .i64 0, .int .i64 0, .int .i64 0] := by kernel_rfl
  rw [h3, e] at this
  exact this
def farRow (D k : Nat) : Array Value := if k = 2 then #[.int .i64 0, .int .i64 0, .int .i64 D, .int .i64 1] else #[.int .i64 0, .int .i64 0, .int .i64 0, .int .i64 0]
set_option maxRecDepth 100000 in
set_option maxHeartbeats 2000000 in
theorem sk_near {w : World} {p q : Nat → Bool} {A B : Option Addr} {n c m d : Nat} {ws vs : List Int} (h1 : SetAt w p A n c ws) (h2 : SetAt w q B m d vs) (K0 : Nat) (hK : K0 < w.heap.size)
    (hc0 : w.cell? ⟨K0, 0, none⟩ = some (.slice A n c)) (hc1 : w.cell? ⟨K0, 1, none⟩ = some (.slice B m d)) :
    Calls Try.prog 10 #[.slice (some ⟨K0, 0, none⟩) 2 2, .slice A n c, .int .i64 1] w fun e w' => (∃ g c', e = .returned (.slice (some ⟨g, 0, none⟩) 1 c') ∧ w'.cell? ⟨g, 0, none⟩ = some (.int .i64 0)) ∧ Below w.heap.size w w' := by
  have HD := apN_bd q p
  obtain ⟨D, hD⟩ : ∃ D, apN q p = D := ⟨_, rfl⟩
  rw [hD] at HD
  have hmk := make_far2 w
  have HP : Hid (apN p p = 0) := apN_same fun _ _ => rfl
  have H1 := Lib.hid h1
  have H2 := Lib.hid h2
  have HDD := Lib.hid hD
  have HC0 := Lib.hid hc0
  have HC1 := Lib.hid hc1
  have B0 : Hid (Below w.heap.size w (w.alloc (.cells #[.int .i64 0, .int .i64 0, .int .i64 0, .int .i64 0] 61))) := (Below.refl _ w).alloc (Nat.le_refl _) _
  have K1 := Lib.hid (Blk.new w 61 #[.int .i64 0, .int .i64 0, .int .i64 0, .int .i64 0])
  clear h1 h2 hD hc0 hc1
  go_enter Try.func10, Try.ntmps10
  go_wp2_with fail
  obtain ⟨w1, hw1⟩ : ∃ x, w.alloc (.cells #[.int .i64 0, .int .i64 0, .int .i64 0, .int .i64 0] 61) = x := ⟨_, rfl⟩
  rw [hw1] at B0 K1 ⊢
  clear hmk hw1
  go_loopw [18] (fun i wr => ∃ (k : Nat), k ≤ 2 ∧ i = .int .i64 k ∧ Hid (Below w.heap.size w wr) ∧ Hid (Blk wr w.heap.size 61 (farRow D k))) (fun i _ => 2 - (intOf i).toNat)
  case atStart => exact ⟨0, by decide, rfl, B0, K1⟩
  case round =>
    obtain ⟨k, hk, rfl, hb, hblk⟩ := hrel
    have S1 := Lib.hid (H1.out.below hb.out)
    have S2 := Lib.hid (H2.out.below hb.out)
    have c0 : wr.cell? ⟨K0, 0, none⟩ = some (.slice A n c) := (hb.out.cell (p := ⟨K0, 0, none⟩) hK).trans HC0.out
    have c1 : wr.cell? ⟨K0, 1, none⟩ = some (.slice B m d) := (hb.out.cell (p := ⟨K0, 1, none⟩) hK).trans HC1.out
    rcases (by omega : k = 0 ∨ k = 1 ∨ k = 2) with rfl | rfl | rfl
    · go_wp2_with fail
      refine (sk_apart S1.out S1.out).mono ?_
      rw [HP.out]
      rintro e w2 ⟨rfl, hb2⟩
      have K2 : Blk w2 w.heap.size 61 #[.int .i64 0, .int .i64 0, .int .i64 0, .int .i64 0] := hblk.out.below hb2 hblk.out.lt
      have f0 := K2.frozen 0
      have f1 := K2.frozen 1
      have x0 : w2.cell? ⟨w.heap.size, 0, none⟩ = some (.int .i64 0) := K2.cell 0
      have x1 : w2.cell? ⟨w.heap.size, 1, none⟩ = some (.int .i64 0) := K2.cell 1
      have B2 := hb.out.trans (hb2.mono hb.out.size)
      have K3 : Blk ((w2.setCell ⟨w.heap.size, 0, none⟩ (.int .i64 0)).setCell ⟨w.heap.size, 1, none⟩ (.int .i64 0)) w.heap.size 61 (farRow D 1) := (K2.set_ 0 (.int .i64 0)).set_ 1 (.int .i64 0)
      have B3 := Lib.hid ((B2.setCell (p := ⟨w.heap.size, 0, none⟩) (Nat.le_refl _) (.int .i64 0)).setCell (p := ⟨w.heap.size, 1, none⟩) (Nat.le_refl _) (.int .i64 0))
      replace K3 := Lib.hid K3
      clear K2 hb2 B2
      go_wp2_with fail
      go_roundw
      case rel => exact ⟨1, by decide, by go_num, B3, K3⟩
      case measure => simp [intOf]
    · go_wp2_with fail
      refine (sk_apart S2.out S1.out).mono ?_
      rw [HDD.out]
      rintro e w2 ⟨rfl, hb2⟩
      have K2 : Blk w2 w.heap.size 61 #[.int .i64 0, .int .i64 0, .int .i64 0, .int .i64 0] := hblk.out.below hb2 hblk.out.lt
      have f0 := K2.frozen 2
      have f1 := K2.frozen 3
      have x0 : w2.cell? ⟨w.heap.size, 2, none⟩ = some (.int .i64 0) := K2.cell 2
      have x1 : w2.cell? ⟨w.heap.size, 3, none⟩ = some (.int .i64 0) := K2.cell 3
      have B2 := hb.out.trans (hb2.mono hb.out.size)
      have K3 : Blk ((w2.setCell ⟨w.heap.size, 2, none⟩ (.int .i64 D)).setCell ⟨w.heap.size, 3, none⟩ (.int .i64 1)) w.heap.size 61 (farRow D 2) := (K2.set_ 2 (.int .i64 D)).set_ 3 (.int .i64 1)
      have B3 := Lib.hid ((B2.setCell (p := ⟨w.heap.size, 2, none⟩) (Nat.le_refl _) (.int .i64 D)).setCell (p := ⟨w.heap.size, 3, none⟩) (Nat.le_refl _) (.int .i64 1))
      replace K3 := Lib.hid K3
      clear K2 hb2 B2
      go_wp2_with fail
      go_roundw
      case rel => exact ⟨2, by decide, by go_num, B3, K3⟩
      case measure => simp [intOf]
    · have hsort := near_sort w.heap.size 61 D HD wr hblk.out
      unfold nearF at hsort
      go_wp2_with fail
      refine hsort.mono ?_
      rintro e w3 ⟨rfl, nn, os, rfl⟩
      have B3 : Below wr.heap.size wr (grow (Go.Sort.ahead wr nn) os) := below_grow (below_ahead (Below.refl _ _) nn) os (Nat.le_refl _)
      obtain ⟨w3, hw3⟩ : ∃ x, grow (Go.Sort.ahead wr nn) os = x := ⟨_, rfl⟩
      rw [hw3] at B3 ⊢
      have K3 : Blk w3 w.heap.size 61 #[.int .i64 0, .int .i64 0, .int .i64 D, .int .i64 1] := hblk.out.below B3 hblk.out.lt
      have x0 : w3.cell? ⟨w.heap.size, 0, none⟩ = some (.int .i64 0) := K3.cell 0
      have x1 : w3.cell? ⟨w.heap.size, 1, none⟩ = some (.int .i64 0) := K3.cell 1
      have HB3 := Lib.hid (hb.out.trans (B3.mono hb.out.size))
      clear hsort hw3 K3 B3 S1 S2 c0 c1
      go_wp2_with fail
      go_loopw [10, 42] (fun v i wx => (i = .int .i64 0 ∧ v = .slice none 0 0 ∧ w3 = wx) ∨ (i = .int .i64 1 ∧ ∃ g c', v = .slice (some ⟨g, 0, none⟩) 1 c' ∧ wx.cell? ⟨g, 0, none⟩ = some (.int .i64 0) ∧ Hid (Below w.heap.size w wx))) (fun _ i _ => 1 - (intOf i).toNat)
      case atStart => exact .inl ⟨rfl, rfl, rfl⟩
      case round =>
        rcases hrel with ⟨rfl, rfl, rfl⟩ | ⟨rfl, g, c', rfl, hg, hbx⟩
        · go_wp2_with fail
          go_roundw
          case rel =>
            refine .inr ⟨rfl, _, _, rfl, ?_, ?_⟩
            · obtain ⟨W2, hW2⟩ : ∃ x, (w3.alloc (.cells #[.int .i64 0, .int .i64 0] 61)).alloc (.cells #[.int .i64 0] 3) = x := ⟨_, rfl⟩
              have hs : w3.heap.size + 1 + 1 = W2.heap.size := by rw [← hW2]; simp only [World.alloc, Array.size_push]
              rw [hW2, hs]
              refine (cell_of_row (W2.alloc _) W2.heap.size 0 _ 3 (0, 0) (heap_alloc_new W2 _)).trans ?_
              exact (Array.getElem?_append_left (by decide)).trans rfl
            · have b1 := HB3.out.alloc (o := .cells #[.int .i64 0, .int .i64 0] 61) HB3.out.size
              have b2 := b1.alloc (o := .cells #[.int .i64 0] 3) b1.size
              exact below_drewN (b2.alloc b2.size _) 1
          case measure => simp [intOf]
        · go_wp2_with fail
          go_ret
          exact ⟨⟨g, c', rfl, hg⟩, hbx.out⟩
end Go.Proofs.Ytlmgfbhgamchgaa
