/- Walks: the reader of package little. -/
import Derived.Test.YtlfblckniikdiaaLitN
namespace Go.Proofs.Ytlfblckniikdiaa
open Go.RowKit
/-- A reader lies in block g: what it has not read, and its first error. -/
def RdrAt (w : World) (g : Nat) (l : List Int) (why : Int) : Prop := w.heap[g]? = some (.cells #[.string (strOfNums l), .int .i64 why] 56 (0, 0))
section
variable {w w' : World} {g : Nat} {l : List Int} {why : Int}
theorem RdrAt.lt (h : RdrAt w g l why) : g < w.heap.size := by
  rcases Nat.lt_or_ge g w.heap.size with q | q
  · exact q
  · unfold RdrAt at h; rw [Array.getElem?_eq_none q] at h; cases h
theorem RdrAt.c0 (h : RdrAt w g l why) : w.cell? ⟨g, 0, none⟩ = some (.string (strOfNums l)) := cell_of_row w g 0 _ _ _ h
theorem RdrAt.c1 (h : RdrAt w g l why) : w.cell? ⟨g, 1, none⟩ = some (.int .i64 why) := cell_of_row w g 1 _ _ _ h
theorem RdrAt.f (h : RdrAt w g l why) (i : Nat) : w.frozen? ⟨g, i, none⟩ = false := frozen_of_row w g i _ _ h
theorem RdrAt.set0 (h : RdrAt w g l why) (m : List Int) : RdrAt (w.setCell ⟨g, 0, none⟩ (.string (strOfNums m))) g m why := heap_setCell_same w g 0 _ _ _ h
theorem RdrAt.set1 (h : RdrAt w g l why) (y : Int) : RdrAt (w.setCell ⟨g, 1, none⟩ (.int .i64 y)) g l y := heap_setCell_same w g 1 _ _ _ h
theorem RdrAt.below {B : Nat} (h : RdrAt w g l why) (hb : Below B w w') (hg : g < B) : RdrAt w' g l why := (hb.block g hg).trans h
theorem RdrAt.grown {row : Option Nat} (h : RdrAt w g l why) (hb : w.grownBy w' row) (hg : some g ≠ row) : RdrAt w' g l why := (hb.block g h.lt hg).trans h
theorem RdrAt.new (w : World) (l : List Int) : RdrAt (w.alloc (.cells #[.string (strOfNums l), .int .i64 0] 56)) w.heap.size l 0 := heap_alloc_new w _
end
theorem lit_new (l : List Int) (w : World) :
    Calls Try.prog 10 #[.string (strOfNums l)] w fun e w' => e = .returned (.pointer (some ⟨w.heap.size, 0, none⟩)) ∧ w.alloc (.cells #[.string (strOfNums l), .int .i64 0] 56) = w' := by
  go_enter Try.func10, Try.ntmps10
  go_wp2
  go_ret
  exact ⟨rfl, rfl⟩
theorem lit_fits (g : Nat) (l : List Int) (why : Int) (w : World) (h : RdrAt w g l why) (b : Bool) (hz : (why == 0) = b) :
    Calls Try.prog 29 #[.pointer (some ⟨g, 0, none⟩)] w fun e w' => e = .returned (.bool b) ∧ w = w' := by
  have h1 := h.c1
  clear h
  go_enter Try.func29, Try.ntmps29
  go_wp2
  go_ret
  exact ⟨rfl, rfl⟩
theorem lit_fits_nil (w : World) :
    Calls Try.prog 29 #[.pointer none] w fun e w' => e = .returned (.bool false) ∧ w = w' := by
  go_enter Try.func29, Try.ntmps29
  go_wp2
  go_ret
  exact ⟨rfl, rfl⟩
theorem rdr_why (g : Nat) (l : List Int) (why : Int) (w : World) (h : RdrAt w g l why) :
    Calls Try.prog 13 #[.pointer (some ⟨g, 0, none⟩)] w fun e w' => e = .returned (.int .i64 why) ∧ w = w' := by
  have h1 := h.c1
  clear h
  go_enter Try.func13, Try.ntmps13
  go_wp2
  go_ret
  exact ⟨rfl, rfl⟩
theorem rdr_why_nil (w : World) :
    Calls Try.prog 13 #[.pointer none] w fun e w' => e = .returned (.int .i64 7) ∧ w = w' := by
  go_enter Try.func13, Try.ntmps13
  go_wp2
  go_ret
  exact ⟨rfl, rfl⟩
theorem rdr_left (g : Nat) (l : List Int) (why : Int) (w : World) (h : RdrAt w g l why) :
    Calls Try.prog 12 #[.pointer (some ⟨g, 0, none⟩)] w fun e w' => e = .returned (.int .i64 l.length) ∧ w = w' := by
  have h1 := h.c0
  have hss := strOfNums_size l
  clear h
  go_enter Try.func12, Try.ntmps12
  go_wp2
  go_ret
  exact ⟨rfl, rfl⟩
theorem rdr_left_nil (w : World) :
    Calls Try.prog 12 #[.pointer none] w fun e w' => e = .returned (.int .i64 0) ∧ w = w' := by
  go_enter Try.func12, Try.ntmps12
  go_wp2
  go_ret
  exact ⟨rfl, rfl⟩
theorem rdr_num_bad (g : Nat) (l : List Int) (why : Int) (w : World) (h : RdrAt w g l why) (hz : (why == 0) = false) :
    Calls Try.prog 11 #[.pointer (some ⟨g, 0, none⟩)] w fun e w' => e = .returned (.int .u64 0) ∧ w = w' := by
  go_enter Try.func11, Try.ntmps11
  go_wp2_with (go_at_call 29; refine (lit_fits g l why _ h false hz).mono ?_; rintro e w' ⟨rfl, rfl⟩)
  go_ret
  exact ⟨rfl, rfl⟩
theorem rdr_num_nil (w : World) :
    Calls Try.prog 11 #[.pointer none] w fun e w' => e = .returned (.int .u64 0) ∧ w = w' := by
  go_enter Try.func11, Try.ntmps11
  go_wp2_with (go_at_call 29; refine (lit_fits_nil _).mono ?_; rintro e w' ⟨rfl, rfl⟩)
  go_ret
  exact ⟨rfl, rfl⟩
set_option maxRecDepth 100000 in
set_option maxHeartbeats 1000000 in
theorem rdr_num (g : Nat) (l : List Int) (hl : Bytes l) (hn : l.length ≤ 9223372036854775807) (w : World) (h : RdrAt w g l 0) (n sz wy : Nat) (hnum : Hid (numOf l = (n, sz, wy))) :
    Calls Try.prog 11 #[.pointer (some ⟨g, 0, none⟩)] w fun e w' => e = .returned (.int .u64 n) ∧ RdrAt w' g (l.drop sz) wy ∧ w.grownBy w' (some g) := by
  have hsz : sz ≤ l.length := by have := (numFrom_bd l 0 0).1; rw [show numFrom l 0 0 = (n, sz, wy) from hnum.out] at this; simpa using this
  have H := Lib.hid h
  have h0 := h.c0
  have hlt := h.lt
  clear h
  have hss := strOfNums_size l
  have hex : ∀ a, (strOfNums l).extract a l.length = strOfNums (l.drop a) := fun a => by rw [str_extract, ← List.length_drop, List.take_length]
  go_enter Try.func11, Try.ntmps11
  go_wp2_with (first
    | (go_at_call 29; refine (lit_fits g l 0 _ H.out true rfl).mono ?_; rintro e w' ⟨rfl, rfl⟩)
    | (go_at_call 30; refine (lit_number l hl hn _).mono ?_; rw [hnum.out]; rintro e w1 ⟨rfl, hb⟩; have H1 := Lib.hid (H.out.below hb hlt); have g0 := H1.out.c0; have g1 := H1.out.c1; have f0 := H1.out.f 0; have f1 := H1.out.f 1))
  go_ret
  exact ⟨rfl, (H1.out.set0 _).set1 _, only_setCell (only_setCell (only_of_below hb _) 0 _) 1 _⟩
end Go.Proofs.Ytlfblckniikdiaa
