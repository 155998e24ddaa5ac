/- Walks of the laws TopPlaces and TopBits: what the document gives. -/
import Derived.Test.YtlfblckniikdiaaBitU
import Derived.Test.YtlfblckniikdiaaPackR
import Derived.Test.YtlfblckniikdiaaPackB
namespace Go.Proofs.Ytlfblckniikdiaa
open Go.RowKit
theorem rd_lits (w : World) (t : Nat) (kd : IntKind) (cs : List Int) (n : Nat) (hn : cs.length = n) : Rd (w.alloc (.cells (cs.map (Value.int kd)).toArray t)) (w.alloc (.cells (cs.map (Value.int kd)).toArray t)).heap.size (some ⟨w.heap.size, 0, none⟩) n (cs.map (.int kd)) := by
  subst hn
  exact IB.rd (g := w.heap.size) (t := t) (cs := cs) ⟨[], by rw [heap_alloc_new]; simp⟩
theorem RetF.ok_ {zs vs : List Int} {w w' : World} {e : Ending} {n : Nat} (h : RetF zs vs w e w') (h1 : wideF zs 64 = true) (hn : vs.length = n) :
    (∃ A c, e = .returned (.tuple #[.slice A n c, .int .i64 0]) ∧ Rd w' w'.heap.size A n (vs.map (.int .u64))) ∧ Below w.heap.size w w' := by
  unfold RetF at h
  rw [h1] at h
  subst hn
  exact h
set_option maxRecDepth 100000 in
set_option maxHeartbeats 1000000 in
theorem begins1_any (w : World) : Calls Try.prog 14 #[] w fun e w' => e = .returned (.bool true) ∧ Below w.heap.size w w' := by
  go_enter Try.func14, Try.ntmps14
  go_wp2_with fail
  refine (pack_fields 6 (by decide) _ 2 2 [1, 2] _ (rd_lits w 3 .i64 [1, 2] 2 rfl) (by decide)).mono ?_
  intro e w1 hret
  obtain ⟨⟨A1, c1, rfl, hl⟩, hb1⟩ := hret.ok_ (n := 2) (by decide) rfl
  have B1 : Below w.heap.size w w1 := ((Below.refl _ _).alloc (Nat.le_refl _) _).trans (hb1.mono (by simp))
  obtain ⟨b, o, rfl, hblt, hc1⟩ := hl.atI (k := 1) (by decide)
  rw [show ig (fieldsF 6 [1, 2]) 1 = 3 by decide] at hc1
  clear hret hb1 hl
  go_wp2_with fail
  refine (bit_of _ 1 1 _ [3] (by simp) _ (rd_lits w1 3 .i64 [3] 1 rfl) (Nat.le_refl _) (by decide)).mono ?_
  rintro e w2 ⟨ws, A, c, rfl, hc, hz, hcan, hrd, hb2⟩
  have B2 : Below w.heap.size w w2 := B1.trans ((((Below.refl _ _).alloc (Nat.le_refl _) _).trans (hb2.mono (by simp))).mono B1.size)
  have hh : hasE ws 3 = true := by
    have h3 := hcan.2.2.1 3 (by decide)
    show (decide _ && hasB ws 3) = true
    rw [h3]; decide
  have hhas := bit_has A ws.length c ws _ 3 (by decide) w2 hrd hcan.1 hc hz
  rw [hh] at hhas
  have HH := Lib.hid hhas
  clear hb2 hhas hh hcan hrd hz B1
  go_wp2_with fail
  refine HH.out.mono ?_
  rintro e w' ⟨rfl, rfl⟩
  go_wp2
  go_ret
  exact ⟨rfl, B2⟩
end Go.Proofs.Ytlfblckniikdiaa
