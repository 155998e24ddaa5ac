/- Lists of neighbours without one. -/
import Derived.Test.YtckclflbcgblaaaPlD
import Derived.Shelf.Abstract
namespace Go.Proofs.Ytckclflbcgblaaa
open Go.RowKit Go.Maps Go.ChangeMaps Go.MapKept
def withoutI (xs : List Int) (v : Int) : List Int := xs.filter (fun x => !(x == v))
theorem kept_filter (xs : List Int) (p : Int → Bool) : ∀ k, k ≤ xs.length → keptI (fun i => p (ig xs i)) xs k = (xs.take k).filter (fun x => !p x)
  | 0, _ => rfl
  | k + 1, h => by
    show keptI (fun i => p (ig xs i)) xs k ++ _ = _
    rw [kept_filter xs p k (by omega), take_step (by omega), List.filter_append]
    congr 1
    cases hp : p (ig xs k) <;> simp [hp]
set_option maxRecDepth 100000 in
theorem without_cl (x v : Int) (t : Nat) (W : World) (hk : Blk W t 3 #[.int .i64 v]) :
    Calls Try.prog 28 #[.int .i64 x, .pointer (some ⟨t, 0, none⟩)] W fun e w' => e = .returned (.bool (x == v)) ∧ W = w' := by
  have c0 : W.cell? ⟨t, 0, none⟩ = some (.int .i64 v) := hk.cell 0
  clear hk
  go_enter Try.func28, Try.ntmps28
  go_wp2_with fail
  go_ret
  exact ⟨rfl, rfl⟩
set_option maxRecDepth 100000 in
set_option maxHeartbeats 1000000 in
theorem eg_without (A : Option Addr) (n c : Nat) (xs : List Int) (v : Int) (w : World) (hr : Rd w w.heap.size A n (xs.map (.int .i64))) (hA : A = none → n = 0 ∧ c = 0) (hn : n ≤ 1048576) :
    Calls Try.prog 10 #[.slice A n c, .int .i64 v] w (RetI (withoutI xs v) w) := by
  obtain ⟨w1, hw1⟩ : ∃ x, w.alloc (.cells #[.int .i64 v] 3) = x := ⟨_, rfl⟩
  have b1 : Below w.heap.size w w1 := by rw [← hw1]; exact bel_box _ _
  have k1 : Blk w1 w.heap.size 3 #[.int .i64 v] := by rw [← hw1]; exact Blk.new _ _ _
  have HCL := Lib.hid (sl_clone A n c xs w1 ((hr.below b1).more b1.size) hA (by omega))
  have HB1 := Lib.hid b1
  have HK1 := Lib.hid k1
  have HL := Lib.hid hr.lenI
  clear hr hA b1 k1
  go_enter Try.func10, Try.ntmps10
  go_upto_region 1 with fail
  (try rw [hw1])
  clear hw1
  go_wp2_with fail
  refine HCL.out.mono ?_
  rintro e w2 ⟨A2, n2, c2, rfl, ho2, b2⟩
  have hn2 : n2 = n := by rw [← ho2.len, HL.out]
  have hgA : ∀ g, A2 = some ⟨g, 0, none⟩ → w1.heap.size ≤ g ∧ g < w2.heap.size := by
    intro g e
    rcases ho2.row with ⟨e', _⟩ | ⟨g', e', hB', _, _, cs, hr, _⟩
    · rw [e'] at e; cases e
    · rw [e'] at e
      injection e with e
      injection e with e
      subst e
      exact ⟨hB', hr.ib.lt⟩
  have hk2 := HK1.out.below b2 HK1.out.lt
  have hlt := HK1.out.lt
  have hdl := del_func A2 n2 c2 w1.heap.size xs 28 #[.pointer (some ⟨w.heap.size, 0, none⟩)] (fun i => ig xs i == v) (fun _ W => Tch (fun k => A2 = some ⟨k, 0, none⟩) w2 W) w2 (by omega)
    (enters_of Try.func28 (by kernel_rfl) rfl) ho2
    (fun i W hi hT => (without_cl (ig xs i) v w.heap.size W (hk2.tch hT (fun e => by have := hgA _ e; omega))).mono fun e w' ⟨h1, h2⟩ => by subst h2; exact ⟨h1, hT, fun _ _ => rfl⟩)
    (fun g hg i W j u hT => hT.setCell hg j u) (Tch.refl _ _)
  have HDL := Lib.hid hdl
  have HB2 := Lib.hid b2
  have HGA := Lib.hid hgA
  have HN2 := Lib.hid hn2
  clear hdl hk2 ho2 b2 hgA hlt hn2
  go_wp2_with fail
  refine HDL.out.mono ?_
  rintro e w3 ⟨m, rfl, ho3, hT⟩
  have hb3 : Below w.heap.size w w3 := (HB1.out.trans (HB2.out.mono HB1.out.size)).trans (hT.below (Nat.le_trans HB1.out.size HB2.out.size) (fun k hk => Nat.le_trans HB1.out.size (HGA.out k hk).1))
  have he : keptI (fun i => ig xs i == v) xs n2 = withoutI xs v := by
    rw [kept_filter xs (fun x => x == v) n2 (by rw [HN2.out, ← HL.out]; exact Nat.le_refl _), List.take_of_length_le (by rw [HN2.out, ← HL.out]; exact Nat.le_refl _)]
    rfl
  rw [he] at ho3
  have HO3 := Lib.hid (ho3.mono HB1.out.size)
  have HB3 := Lib.hid hb3
  clear he ho3 hT hb3
  go_wp2_with fail
  go_ret
  exact ⟨_, _, _, rfl, HO3.out, HB3.out⟩
end Go.Proofs.Ytckclflbcgblaaa
