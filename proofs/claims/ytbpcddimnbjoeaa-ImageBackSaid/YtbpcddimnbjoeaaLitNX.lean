/- Package little's reader, and the document's Next (merged of LitN LitR LitX). -/
import Derived.Test.YtbpcddimnbjoeaaLitW
namespace Go.Proofs.Ytbpcddimnbjoeaa
open Go.RowKit
theorem drop_at {l : List Int} {k : Nat} (h : k < l.length) : l.drop k = ig l k :: l.drop (k + 1) := by
  rw [List.drop_eq_getElem_cons h, ig, List.getD_eq_getElem?_getD, List.getElem?_eq_getElem h]; rfl
set_option maxRecDepth 100000 in
set_option maxHeartbeats 2000000 in
theorem lit_number (l : List Int) (hl : Bytes l) (_hn : l.length ≤ 9223372036854775807) (w : World) :
    Calls Try.prog 79 #[.string (strOfNums l)] w fun e w' => e = .returned (.tuple #[.int .u64 (numOf l).1, .int .i64 (numOf l).2.1, .int .i64 (numOf l).2.2]) ∧ Below w.heap.size w w' := by
  obtain ⟨c, W, hcv, hcell, hb⟩ := conv_bytes (P := Try.prog) Try.underlying9 Try.underlying34 Try.underlying5 l hl w
  have HC := Lib.hid hcell
  clear hcell
  go_enter Try.func79, Try.ntmps79
  go_wp2
  clear hcv
  go_loop [2, 10] (fun x i => ∃ k acc : Nat, k ≤ l.length ∧ k ≤ 10 ∧ i = .int .i64 k ∧ x = .int .u64 acc ∧ Hid (k ≤ 9 → acc < 2 ^ (7 * k)) ∧ Hid (numFrom (l.drop k) k acc = numOf l)) (fun _ i => (l.length - intOf i).toNat)
  case atStart => exact ⟨0, 0, Nat.zero_le _, Nat.zero_le _, rfl, rfl, fun _ => by decide, rfl⟩
  case round =>
    obtain ⟨k, acc, hk, hk10, rfl, rfl, hacc, hv⟩ := hrel
    by_cases hlt : k < l.length
    · obtain ⟨b0, b1⟩ := hl.at_ k
      obtain ⟨b, hbb⟩ := Int.eq_ofNat_of_zero_le (show 0 ≤ ig l k from b0)
      have hb256 : b < 256 := by have : ig l k < 256 := b1; omega
      have hc := HC.out k hlt
      rw [hbb] at hc
      have hd := drop_at hlt
      rw [hbb] at hd
      obtain ⟨x, hx⟩ : ∃ x, b % 128 = x := ⟨_, rfl⟩
      have hx128 : x < 128 := by omega
      have h127 : bits .and .u8 (b : Int) 127 = (x : Int) := by rw [← hx]; exact and127 b hb256
      have HN := numFrom_step b x k acc (l.drop (k + 1)) hx
      rw [← hd] at HN
      have HNN := Lib.hid HN
      clear HN
      clear hd b0 b1 hbb
      have HX := Lib.hid hx
      clear hx
      by_cases k10 : k = 10
      · have HR : Hid (numOf l = (0, 0, 7)) := by show _ = _; rw [← hv.out, HNN.out, if_pos (.inl k10)]
        have t10 : ((k : Int) == 10) = true := by simp [k10]
        clear k10
        go_wp2
        go_ret3
        exact ⟨by rw [HR.out]; rfl, hb⟩
      · have t10 : ((k : Int) == 10) = false := by simp; omega
        have hk9 : k ≤ 9 := by omega
        by_cases e9 : k = 9 ∧ 1 < x
        · have HR : Hid (numOf l = (0, 0, 7)) := by show _ = _; rw [← hv.out, HNN.out, if_pos (.inr e9)]
          have t9 : ((k : Int) == 9) = true := by simp [e9.1]
          have tx : decide (1 < (x : Int)) = true := by simp; omega
          clear e9 k10
          go_wp2
          go_ret3
          exact ⟨by rw [HR.out]; rfl, hb⟩
        · have h9 : k = 9 → x ≤ 1 := fun h => by omega
          have ho := or_step hk9 (hacc.out hk9) hx128 h9
          have hacc' := Lib.hid (acc_bd (hacc.out hk9) hx128)
          obtain ⟨y, hy⟩ : ∃ y, acc + x * 2 ^ (7 * k) = y := ⟨_, rfl⟩
          rw [hy] at ho hacc' HNN
          have HV : Hid (numOf l = _) := (by rw [← hv.out, HNN.out, if_neg (by rintro (q | q); exact k10 q; exact e9 q)] : numOf l = if (128 : Int) ≤ b then numFrom (l.drop (k + 1)) (k + 1) y else if (b : Int) = 0 ∧ 0 < k then (0, 0, 7) else (y, k + 1, 0))
          have T : Hid ((((k : Int) == 9) = true ∧ decide (1 < (x : Int)) = false) ∨ ((k : Int) == 9) = false) := by
            by_cases q : k = 9
            · exact .inl ⟨by simp [q], by have := h9 q; simp; omega⟩
            · exact .inr (by simp; omega)
          clear hy h9 e9 k10
          by_cases hb128 : 128 ≤ b
          · have HR : Hid (numFrom (l.drop (k + 1)) (k + 1) y = numOf l) := by show _ = _; rw [HV.out, if_pos (by omega)]
            rcases T.out with ⟨t9, tx⟩ | t9
            all_goals
              go_wp2
              go_round
              case rel => exact ⟨k + 1, y, by omega, by omega, by go_num, rfl, fun _ => hacc'.out, HR.out⟩
              case measure => simp [intOf]; omega
          · by_cases hz : b = 0 ∧ 0 < k
            · have HR : Hid (numOf l = (0, 0, 7)) := by show _ = _; rw [HV.out, if_neg (by omega), if_pos ⟨by omega, hz.2⟩]
              have tb : ((b : Int) == 0) = true := by simp [hz.1]
              have tk : decide (0 < k) = true := by simp; omega
              clear hz
              rcases T.out with ⟨t9, tx⟩ | t9
              all_goals
                go_wp2
                go_ret3
                exact ⟨by rw [HR.out]; rfl, hb⟩
            · have HR : Hid (numOf l = (y, k + 1, 0)) := by show _ = _; rw [HV.out, if_neg (by omega), if_neg (fun h => hz ⟨by omega, h.2⟩)]
              have TZ : Hid ((((b : Int) == 0) = true ∧ decide (0 < k) = false) ∨ ((b : Int) == 0) = false) := by
                by_cases q : b = 0
                · exact .inl ⟨by simp [q], by simp; omega⟩
                · exact .inr (by simp; omega)
              clear hz
              rcases T.out with ⟨t9, tx⟩ | t9 <;> rcases TZ.out with ⟨tb, tk⟩ | tb
              all_goals
                go_wp2
                go_ret3
                exact ⟨by rw [HR.out]; rfl, hb⟩
    · have HR : Hid (numOf l = (0, 0, 8)) := by show _ = _; rw [← hv.out, List.drop_of_length_le (by omega)]; rfl
      go_wp2
      go_ret3
      exact ⟨by rw [HR.out]; rfl, hb⟩
/-- A reader lies in block g: what it has not read, and its first error. -/
def RdrAt (w : World) (g : Nat) (l : List Int) (why : Int) : Prop := w.heap[g]? = some (.cells #[.string (strOfNums l), .int .i64 why] 93 (0, 0))
section
variable {w w' : World} {g : Nat} {l : List Int} {why : Int}
theorem RdrAt.lt (h : RdrAt w g l why) : g < w.heap.size := by
  rcases Nat.lt_or_ge g w.heap.size with q | q
  · exact q
  · unfold RdrAt at h; rw [Array.getElem?_eq_none q] at h; cases h
theorem RdrAt.c0 (h : RdrAt w g l why) : w.cell? ⟨g, 0, none⟩ = some (.string (strOfNums l)) := cell_of_row w g 0 _ _ _ h
theorem RdrAt.c1 (h : RdrAt w g l why) : w.cell? ⟨g, 1, none⟩ = some (.int .i64 why) := cell_of_row w g 1 _ _ _ h
theorem RdrAt.f (h : RdrAt w g l why) (i : Nat) : w.frozen? ⟨g, i, none⟩ = false := frozen_of_row w g i _ _ h
theorem RdrAt.set0 (h : RdrAt w g l why) (m : List Int) : RdrAt (w.setCell ⟨g, 0, none⟩ (.string (strOfNums m))) g m why := heap_setCell_same w g 0 _ _ _ h
theorem RdrAt.set1 (h : RdrAt w g l why) (y : Int) : RdrAt (w.setCell ⟨g, 1, none⟩ (.int .i64 y)) g l y := heap_setCell_same w g 1 _ _ _ h
theorem RdrAt.below {B : Nat} (h : RdrAt w g l why) (hb : Below B w w') (hg : g < B) : RdrAt w' g l why := (hb.block g hg).trans h
theorem RdrAt.grown {row : Option Nat} (h : RdrAt w g l why) (hb : w.grownBy w' row) (hg : some g ≠ row) : RdrAt w' g l why := (hb.block g h.lt hg).trans h
theorem RdrAt.new (w : World) (l : List Int) : RdrAt (w.alloc (.cells #[.string (strOfNums l), .int .i64 0] 93)) w.heap.size l 0 := heap_alloc_new w _
end
theorem lit_new (l : List Int) (w : World) :
    Calls Try.prog 27 #[.string (strOfNums l)] w fun e w' => e = .returned (.pointer (some ⟨w.heap.size, 0, none⟩)) ∧ w.alloc (.cells #[.string (strOfNums l), .int .i64 0] 93) = w' := by
  go_enter Try.func27, Try.ntmps27
  go_wp2
  go_ret
  exact ⟨rfl, rfl⟩
theorem lit_fits (g : Nat) (l : List Int) (why : Int) (w : World) (h : RdrAt w g l why) (b : Bool) (hz : (why == 0) = b) :
    Calls Try.prog 78 #[.pointer (some ⟨g, 0, none⟩)] w fun e w' => e = .returned (.bool b) ∧ w = w' := by
  have h1 := h.c1
  clear h
  go_enter Try.func78, Try.ntmps78
  go_wp2
  go_ret
  exact ⟨rfl, rfl⟩
theorem lit_fits_nil (w : World) :
    Calls Try.prog 78 #[.pointer none] w fun e w' => e = .returned (.bool false) ∧ w = w' := by
  go_enter Try.func78, Try.ntmps78
  go_wp2
  go_ret
  exact ⟨rfl, rfl⟩
theorem rdr_why (g : Nat) (l : List Int) (why : Int) (w : World) (h : RdrAt w g l why) :
    Calls Try.prog 51 #[.pointer (some ⟨g, 0, none⟩)] w fun e w' => e = .returned (.int .i64 why) ∧ w = w' := by
  have h1 := h.c1
  clear h
  go_enter Try.func51, Try.ntmps51
  go_wp2
  go_ret
  exact ⟨rfl, rfl⟩
theorem rdr_why_nil (w : World) :
    Calls Try.prog 51 #[.pointer none] w fun e w' => e = .returned (.int .i64 7) ∧ w = w' := by
  go_enter Try.func51, Try.ntmps51
  go_wp2
  go_ret
  exact ⟨rfl, rfl⟩
theorem rdr_left (g : Nat) (l : List Int) (why : Int) (w : World) (h : RdrAt w g l why) :
    Calls Try.prog 52 #[.pointer (some ⟨g, 0, none⟩)] w fun e w' => e = .returned (.int .i64 l.length) ∧ w = w' := by
  have h1 := h.c0
  have hss := strOfNums_size l
  clear h
  go_enter Try.func52, Try.ntmps52
  go_wp2
  go_ret
  exact ⟨rfl, rfl⟩
theorem rdr_left_nil (w : World) :
    Calls Try.prog 52 #[.pointer none] w fun e w' => e = .returned (.int .i64 0) ∧ w = w' := by
  go_enter Try.func52, Try.ntmps52
  go_wp2
  go_ret
  exact ⟨rfl, rfl⟩
theorem rdr_num_bad (g : Nat) (l : List Int) (why : Int) (w : World) (h : RdrAt w g l why) (hz : (why == 0) = false) :
    Calls Try.prog 69 #[.pointer (some ⟨g, 0, none⟩)] w fun e w' => e = .returned (.int .u64 0) ∧ w = w' := by
  go_enter Try.func69, Try.ntmps69
  go_wp2_with (go_at_call 78; refine (lit_fits g l why _ h false hz).mono ?_; rintro e w' ⟨rfl, rfl⟩)
  go_ret
  exact ⟨rfl, rfl⟩
theorem rdr_num_nil (w : World) :
    Calls Try.prog 69 #[.pointer none] w fun e w' => e = .returned (.int .u64 0) ∧ w = w' := by
  go_enter Try.func69, Try.ntmps69
  go_wp2_with (go_at_call 78; refine (lit_fits_nil _).mono ?_; rintro e w' ⟨rfl, rfl⟩)
  go_ret
  exact ⟨rfl, rfl⟩
set_option maxRecDepth 100000 in
set_option maxHeartbeats 1000000 in
theorem rdr_num (g : Nat) (l : List Int) (hl : Bytes l) (hn : l.length ≤ 9223372036854775807) (w : World) (h : RdrAt w g l 0) (n sz wy : Nat) (hnum : Hid (numOf l = (n, sz, wy))) :
    Calls Try.prog 69 #[.pointer (some ⟨g, 0, none⟩)] w fun e w' => e = .returned (.int .u64 n) ∧ RdrAt w' g (l.drop sz) wy ∧ w.grownBy w' (some g) := by
  have hsz : sz ≤ l.length := by have := (numFrom_bd l 0 0).1; rw [show numFrom l 0 0 = (n, sz, wy) from hnum.out] at this; simpa using this
  have H := Lib.hid h
  have h0 := h.c0
  have hlt := h.lt
  clear h
  have hss := strOfNums_size l
  have hex : ∀ a, (strOfNums l).extract a l.length = strOfNums (l.drop a) := fun a => by rw [str_extract, ← List.length_drop, List.take_length]
  go_enter Try.func69, Try.ntmps69
  go_wp2_with (first
    | (go_at_call 78; refine (lit_fits g l 0 _ H.out true rfl).mono ?_; rintro e w' ⟨rfl, rfl⟩)
    | (go_at_call 79; refine (lit_number l hl hn _).mono ?_; rw [hnum.out]; rintro e w1 ⟨rfl, hb⟩; have H1 := Lib.hid (H.out.below hb hlt); have g0 := H1.out.c0; have g1 := H1.out.c1; have f0 := H1.out.f 0; have f1 := H1.out.f 1))
  go_ret
  exact ⟨rfl, (H1.out.set0 _).set1 _, only_setCell (only_setCell (only_of_below hb _) 0 _) 1 _⟩
theorem ref_next_bad (l : List Int) (why : Int) (hz : (why != 0) = true) (w : World) :
    Calls Try.prog 53 #[.agg #[.string (strOfNums l), .int .i64 why]] w fun e w' => e = .returned (.tuple #[.agg #[.string (strOfNums l), .int .i64 why], .int .u64 0]) ∧ Below w.heap.size w w' := by
  go_enter Try.func53, Try.ntmps53
  go_wp2
  refine bodyPost_ret (v := .tuple #[.agg #[.string (strOfNums l), .int .i64 why], .int .u64 0]) (by simp [results, Try.results53, go_sem]) rfl ⟨rfl, ?_⟩
  exact ((Below.refl _ _).alloc (Nat.le_refl _) _).alloc (by simp) _
set_option maxRecDepth 100000 in
set_option maxHeartbeats 4000000 in
theorem ref_next (l : List Int) (hl : Bytes l) (_hn : l.length ≤ 9223372036854775807) (w : World) :
    Calls Try.prog 53 #[.agg #[.string (strOfNums l), .int .i64 0]] w fun e w' => e = .returned (.tuple #[.agg #[.string (strOfNums (l.drop (numOf l).2.1)), .int .i64 (numOf l).2.2], .int .u64 (numOf l).1]) ∧ Below w.heap.size w w' := by
  have hss := strOfNums_size l
  have hex : ∀ a, (strOfNums l).extract a l.length = strOfNums (l.drop a) := fun a => by rw [str_extract, ← List.length_drop, List.take_length]
  go_enter Try.func53, Try.ntmps53
  go_wp2
  go_loop [4, 5] (fun x i => ∃ k acc : Nat, k ≤ l.length ∧ k ≤ 10 ∧ i = .int .i64 k ∧ x = .int .u64 acc ∧ Hid (k ≤ 9 → acc < 2 ^ (7 * k)) ∧ Hid (numFrom (l.drop k) k acc = numOf l)) (fun _ i => (l.length - intOf i).toNat)
  case atStart => exact ⟨0, 0, Nat.zero_le _, Nat.zero_le _, rfl, rfl, fun _ => by decide, rfl⟩
  case round =>
    obtain ⟨k, acc, hk, hk10, rfl, rfl, hacc, hv⟩ := hrel
    by_cases hlt : k < l.length
    · obtain ⟨b0, b1⟩ := hl.at_ k
      obtain ⟨b, hbb⟩ := Int.eq_ofNat_of_zero_le (show 0 ≤ ig l k from b0)
      have hb256 : b < 256 := by have : ig l k < 256 := b1; omega
      have hg : ∀ h : k < (strOfNums l).size, (((strOfNums l)[k]'h).toNat : Int) = (b : Int) := fun h => (str_get l hl k h).trans hbb
      have hd := drop_at hlt
      rw [hbb] at hd
      obtain ⟨x, hx⟩ : ∃ x, b % 128 = x := ⟨_, rfl⟩
      have hx128 : x < 128 := by omega
      have hbx : (b : Int) % 128 = (x : Int) := by omega
      have HN := numFrom_step b x k acc (l.drop (k + 1)) hx
      rw [← hd] at HN
      have HNN := Lib.hid HN
      clear HN
      clear hd b0 b1 hbb
      have HX := Lib.hid hx
      clear hx
      by_cases k10 : k = 10
      · have HR : Hid (numOf l = (0, 0, 7)) := by show _ = _; rw [← hv.out, HNN.out, if_pos (.inl k10)]
        have t9 : ((k : Int) == 9) = false := by simp; omega
        have t10 : decide (9 < (k : Int)) = true := by simp; omega
        clear k10
        go_wp2
        refine bodyPost_ret (v := .tuple #[.agg #[.string (strOfNums l), .int .i64 7], .int .u64 0]) (by simp [results, Try.results53, go_sem]) rfl ⟨by rw [HR.out]; rfl, ((Below.refl _ _).alloc (Nat.le_refl _) _).alloc (by simp) _⟩
      · have t10 : decide (9 < (k : Int)) = false := by simp; omega
        have hk9 : k ≤ 9 := by omega
        by_cases e9 : k = 9 ∧ 1 < x
        · have HR : Hid (numOf l = (0, 0, 7)) := by show _ = _; rw [← hv.out, HNN.out, if_pos (.inr e9)]
          have t9 : ((k : Int) == 9) = true := by simp [e9.1]
          have tx : decide (1 < (x : Int)) = true := by simp; omega
          clear e9 k10
          go_wp2
          refine bodyPost_ret (v := .tuple #[.agg #[.string (strOfNums l), .int .i64 7], .int .u64 0]) (by simp [results, Try.results53, go_sem]) rfl ⟨by rw [HR.out]; rfl, ((Below.refl _ _).alloc (Nat.le_refl _) _).alloc (by simp) _⟩
        · have h9 : k = 9 → x ≤ 1 := fun h => by omega
          have ho := add_step hk9 (hacc.out hk9) hx128 h9
          have hacc' := Lib.hid (acc_bd (hacc.out hk9) hx128)
          obtain ⟨y, hy⟩ : ∃ y, acc + x * 2 ^ (7 * k) = y := ⟨_, rfl⟩
          rw [hy] at ho hacc' HNN
          have HV : Hid (numOf l = _) := (by rw [← hv.out, HNN.out, if_neg (by rintro (q | q); exact k10 q; exact e9 q)] : numOf l = if (128 : Int) ≤ b then numFrom (l.drop (k + 1)) (k + 1) y else if (b : Int) = 0 ∧ 0 < k then (0, 0, 7) else (y, k + 1, 0))
          have T : Hid ((((k : Int) == 9) = true ∧ decide (1 < (x : Int)) = false) ∨ ((k : Int) == 9) = false) := by
            by_cases q : k = 9
            · exact .inl ⟨by simp [q], by have := h9 q; simp; omega⟩
            · exact .inr (by simp; omega)
          clear hy h9 e9 k10
          by_cases hb128 : 128 ≤ b
          · have HR : Hid (numFrom (l.drop (k + 1)) (k + 1) y = numOf l) := by show _ = _; rw [HV.out, if_pos (by omega)]
            rcases T.out with ⟨t9, tx⟩ | t9
            all_goals
              go_wp2
              go_round
              case rel => exact ⟨k + 1, y, by omega, by omega, by go_num, rfl, fun _ => hacc'.out, HR.out⟩
              case measure => simp [intOf]; omega
          · have hxb : x = b := by have := HX.out; omega
            subst hxb
            by_cases hz : x = 0 ∧ 0 < k
            · have HR : Hid (numOf l = (0, 0, 7)) := by show _ = _; rw [HV.out, if_neg (by omega), if_pos ⟨by omega, hz.2⟩]
              have tb : ((x : Int) == 0) = true := by simp [hz.1]
              have tk : decide (0 < k) = true := by simp; omega
              clear hz
              rcases T.out with ⟨t9, tx⟩ | t9
              all_goals
                go_wp2
                refine bodyPost_ret (v := .tuple #[.agg #[.string (strOfNums l), .int .i64 7], .int .u64 0]) (by simp [results, Try.results53, go_sem]) rfl ⟨by rw [HR.out]; rfl, ((Below.refl _ _).alloc (Nat.le_refl _) _).alloc (by simp) _⟩
            · have HR : Hid (numOf l = (y, k + 1, 0)) := by show _ = _; rw [HV.out, if_neg (by omega), if_neg (fun h => hz ⟨by omega, h.2⟩)]
              have TZ : Hid ((((x : Int) == 0) = true ∧ decide (0 < k) = false) ∨ ((x : Int) == 0) = false) := by
                by_cases q : x = 0
                · exact .inl ⟨by simp [q], by simp; omega⟩
                · exact .inr (by simp; omega)
              clear hz
              rcases T.out with ⟨t9, tx⟩ | t9 <;> rcases TZ.out with ⟨tb, tk⟩ | tb
              all_goals
                go_wp2
                refine bodyPost_ret (v := .tuple #[.agg #[.string (strOfNums (l.drop (k + 1))), .int .i64 0], .int .u64 y]) (by simp [results, Try.results53, go_sem]) rfl ⟨by rw [HR.out]; rfl, ((Below.refl _ _).alloc (Nat.le_refl _) _).alloc (by simp) _⟩
    · have HR : Hid (numOf l = (0, 0, 8)) := by show _ = _; rw [← hv.out, List.drop_of_length_le (by omega)]; rfl
      go_wp2
      refine bodyPost_ret (v := .tuple #[.agg #[.string (strOfNums l), .int .i64 8], .int .u64 0]) (by simp [results, Try.results53, go_sem]) rfl ⟨by rw [HR.out]; rfl, ((Below.refl _ _).alloc (Nat.le_refl _) _).alloc (by simp) _⟩
end Go.Proofs.Ytbpcddimnbjoeaa
