/- begins9; TopKnown: law and walk. -/
import Derived.Test.YtoodifpkconfcaaRcI
import Derived.Test.YtoodifpkconfcaaOpen
namespace Go.Proofs.Ytoodifpkconfcaa
open Go.RowKit
theorem ks_nil {rs : Int → Option Int} (h : rs = fun _ => none) {ks : List Int} (hk : ∀ k ∈ ks, (rs k).isSome = true ∧ 0 ≤ k ∧ k < 65) : ks = [] := by
  cases ks with
  | nil => rfl
  | cons k l => have := (hk k (List.mem_cons_self ..)).1; rw [h] at this; cases this
theorem cmp_one : cmpC (ofI [1]) (ofI [0, 1]) = 2 := by decide +kernel
theorem ckJ_at {u : Nat} (h : u < 65) : ckJ 65 u = cl0.set u 1 := by
  unfold ckJ stepC
  rw [if_pos h, ig_cl0]
  rfl
theorem ig_set0 {u : Nat} (h : u < 65) (v : Int) (i : Nat) : ig (cl0.set u v) i = if u = i then v else 0 := by
  rw [ig_set (by rw [cl0_len]; exact h), ig_cl0]
theorem rd_box {w : World} {b n : Nat} {l : List Int} (h : Blk w b 3 (l.map (Value.int .i64)).toArray) (hn : l.length = n) : Rd w w.heap.size (some ⟨b, 0, none⟩) n (l.map (.int .i64)) :=
  ⟨by rw [List.length_map]; exact hn, fun _ => ⟨b, 0, rfl, h.lt, fun j v hv => by rw [Nat.zero_add, h.cell]; simpa using hv⟩⟩
set_option maxRecDepth 100000 in
set_option maxHeartbeats 4000000 in
theorem begins9_true (w : World) : Calls Try.prog 6 #[] w (fun e w' => e = .returned (.bool true) ∧ Below w.heap.size w w') := by
  have HN := Lib.hid (rc_new w)
  go_enter Try.func6, Try.ntmps6
  go_upto_region 2 with (go_at_call 7; (with_reducible refine HN.out.mono ?_); rintro e w1 ⟨xb, sy, da, rfl, hS1, hb1, hx1, hx2, hx3⟩; have HS1 := Lib.hid hS1; have HB1 := Lib.hid hb1; have HX := Lib.hid (show w.heap.size ≤ xb ∧ w.heap.size ≤ sy ∧ w.heap.size ≤ da from ⟨hx1, hx2, hx3⟩); clear hS1 hb1 hx1 hx2 hx3)
  have HWR := Lib.hid (rc_write HS1.out (by decide) (by decide) 0 (by decide) 1 (by decide))
  have k0 : ig (ckJ 65 0) 0 = 1 := by decide +kernel
  have k1 : knC (ckJ 65 1) 1 0 1 = false := by decide +kernel
  have HK0 := Lib.hid k0
  have HK1 := Lib.hid k1
  clear k0 k1
  go_wp2_with (first
    | (go_at_call 14; (refine HWR.out.mono ?_); rintro e w2 ⟨F2, sl2, r, kn, ks, rfl, hor, hks, hkn, hS2, hT2, hF2⟩; obtain ⟨hwr, hrs⟩ : r.wr = false ∧ r.rs = fun _ => none := (by rcases hor with h | h; cases h; exact h.2); have hk2 : ks = [] := ks_nil hrs hks; have hkt : kn = true := (by rw [hkn, hwr, hk2]; rfl); subst hkt; have HS2 := Lib.hid hS2; have HT2 := Lib.hid hT2; have HF2 := Lib.hid hF2; have HRD := Lib.hid (rc_read HS2.out (by decide) (by decide) 1 (by decide) 1 (by decide) (by decide +kernel)); clear hor hks hkn hS2 hT2 hF2 hwr hrs hk2)
    | (go_at_call 13; (refine HRD.out.mono ?_); rintro e w3 ⟨F3, sl3, r3, kn3, rfl, hor3, hkn3, hS3, hT3, hF3⟩; obtain rfl : r3 = ⟨r.b, r.rb, 0, ig (ckJ 65 0) 0, true, fun _ => none⟩ := (by rcases hor3 with h | ⟨h, _⟩; rw [upO_self] at h; exact (Option.some.inj h).symm; rw [upO_self] at h; cases h); have hk3 : kn3 = false := (by rw [hkn3]; show (false || knC (ckJ 65 1) 1 0 (ig (ckJ 65 0) 0)) = false; rw [HK0.out, HK1.out]; rfl); subst hk3; have HT3 := Lib.hid hT3; clear hor3 hkn3 hS3 hT3 hF3))
  obtain ⟨w4, hw4⟩ : ∃ q, w3.alloc (.cells #[.int .i64 1] 3) = q := ⟨_, rfl⟩
  rw [hw4]
  obtain ⟨w5, hw5⟩ : ∃ q, w4.alloc (.cells #[.int .i64 0, .int .i64 1] 3) = q := ⟨_, rfl⟩
  rw [hw5]
  have e4 : w4.heap.size = w3.heap.size + 1 := by rw [← hw4]; simp only [World.alloc, Array.size_push]
  have k4 : Blk w4 w3.heap.size 3 #[.int .i64 1] := by rw [← hw4]; exact Blk.new _ _ _
  have k5 : Blk w5 w4.heap.size 3 #[.int .i64 0, .int .i64 1] := by rw [← hw5]; exact Blk.new _ _ _
  have b4 : Below w3.heap.size w3 w4 := by rw [← hw4]; exact bel_boxC _ _
  have b5 : Below w4.heap.size w4 w5 := by rw [← hw5]; exact bel_boxC _ _
  have k45 := k4.below b5 k4.lt
  have hC := cl_compare (some ⟨w3.heap.size, 0, none⟩) 1 1 [1] (some ⟨w4.heap.size, 0, none⟩) 2 2 [0, 1] w5 (rd_box k45 rfl) (by decide) (by decide) (rd_box k5 rfl) (by decide) (by decide)
  rw [cmp_one, e4] at hC
  have h13 : Below w.heap.size w w3 := by
    have h1 := HB1.out.trans (HT2.out.below HB1.out.size (fun x hx => by have := HX.out; rcases hx with rfl | rfl | rfl <;> omega))
    exact h1.trans (HT3.out.below h1.size (fun x hx => by
      rcases HF2.out x hx with h | h
      · have := HX.out; rcases h with rfl | rfl | rfl <;> omega
      · exact Nat.le_trans HB1.out.size h))
  have HB5 := Lib.hid ((h13.trans (b4.mono h13.size)).trans (b5.mono (Nat.le_trans h13.size b4.size)))
  clear e4 k4 k5 b4 b5 k45 h13 hw4 hw5
  refine hC.mono ?_
  rintro e w6 ⟨rfl, hb6⟩
  have HB6 := Lib.hid hb6
  clear hb6 hC
  go_wp2_with fail
  go_ret
  exact ⟨rfl, HB5.out.trans (HB6.out.mono HB5.out.size)⟩
end Go.Proofs.Ytoodifpkconfcaa
