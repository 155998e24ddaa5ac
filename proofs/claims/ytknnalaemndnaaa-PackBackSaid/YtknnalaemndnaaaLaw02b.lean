/- Walk of the law PackTells. -/
import Derived.Test.YtknnalaemndnaaaLaw02
namespace Go.Proofs.Ytknnalaemndnaaa
open Go.RowKit
theorem same_refl (l : List Int) : sameB l l = true := by unfold sameB; simp
theorem RetF.open_ {zs vs us : List Int} {wy : Int} {w w' : World} {e : Ending} (h : RetF zs vs w e w') (h1 : (if wideF zs 64 then vs else []) = us) (h2 : (if wideF zs 64 then (0 : Int) else 6) = wy) :
    (∃ A c, e = .returned (.tuple #[.slice A us.length c, .int .i64 wy]) ∧ Rd w' w'.heap.size A us.length (us.map (.int .u64))) ∧ Below w.heap.size w w' := by
  unfold RetF at h
  rw [h1, h2] at h
  exact h
set_option maxRecDepth 100000 in
set_option maxHeartbeats 1000000 in
theorem packTells_out (v n : Int) (A : Option Addr) (m c : Nat) (A' : Option Addr) (m' c' : Nat) (w : World) (h : 100 < m ∨ 100 < m') :
    Calls Try.prog 8 #[.int .u64 v, .slice A m c, .slice A' m' c', .int .i64 n] w fun e w' => e = .returned (.bool true) ∧ Below w.heap.size w w' := by
  by_cases h1 : 100 < m
  · have t1 : decide (100 < (m : Int)) = true := by simp; omega
    clear h h1
    go_enter Try.func8, Try.ntmps8
    go_wp2_with (go_at_call 40; refine (lives02 _).mono ?_; rintro e w1 ⟨rfl, hb1⟩)
    go_ret
    exact ⟨rfl, hb1⟩
  · have t1 : decide (100 < (m : Int)) = false := by simp; omega
    have t2 : decide (100 < (m' : Int)) = true := by simp; omega
    clear h h1
    go_enter Try.func8, Try.ntmps8
    go_wp2_with (go_at_call 40; refine (lives02 _).mono ?_; rintro e w1 ⟨rfl, hb1⟩)
    go_ret
    exact ⟨rfl, hb1⟩
set_option maxRecDepth 100000 in
set_option maxHeartbeats 1000000 in
theorem packTells_walk (v : Nat) (hv : v < 18446744073709551616) (n : Int) (hn0 : -9223372036854775808 ≤ n) (hn1 : n ≤ 9223372036854775807) (A : Option Addr) (m c : Nat) (ls : List Int) (hls : ∀ z ∈ ls, Word z) (A' : Option Addr) (m' c' : Nat) (zs : List Int) (w : World)
    (hr : Rd w w.heap.size A m (ls.map (.int .u64))) (hr' : Rd w w.heap.size A' m' (zs.map (.int .i64))) (hm : m ≤ 100) (hm' : m' ≤ 100) :
    Calls Try.prog 8 #[.int .u64 v, .slice A m c, .slice A' m' c', .int .i64 n] w fun e w' => e = .returned (.bool true) ∧ Below w.heap.size w w' := by
  have t1 : decide (100 < (m : Int)) = false := by simp; omega
  have t2 : decide (100 < (m' : Int)) = false := by simp; omega
  obtain ⟨us, hus⟩ : ∃ us, (if wideF zs 64 then fieldsF v zs else []) = us := ⟨_, rfl⟩
  obtain ⟨wy, hwy⟩ : ∃ wy, (if wideF zs 64 then (0 : Int) else 6) = wy := ⟨_, rfl⟩
  have hul : us.length ≤ 100 := by
    rw [← hus]
    split
    · rw [fields_len]; have := hr'.lenI; omega
    · simp
  have HU := Lib.hid hus
  have HW := Lib.hid hwy
  obtain ⟨jx, hjx⟩ : ∃ jx, (joinE ls zs).1 = jx := ⟨_, rfl⟩
  obtain ⟨jy, hjy⟩ : ∃ jy, (joinE ls zs).2 = jy := ⟨_, rfl⟩
  have hj1 := fun w hr hr' => pack_join A m c ls hls A' m' c' zs w hr hr' hm hm'
  have hj2 := fun w hr hr' => ref_join A m c ls hls A' m' c' zs w hr hr' hm hm'
  rw [hjx, hjy] at hj1 hj2
  have HR := Lib.hid hr
  have HR' := Lib.hid hr'
  clear hus hwy hjx hjy hr hr'
  go_enter Try.func8, Try.ntmps8
  go_wp2_with fail
  refine (pack_fields v hv A' m' c' zs _ HR'.out hm').mono ?_
  intro e w1 hret
  obtain ⟨⟨A1, c1, rfl, hd1⟩, hb1⟩ := hret.open_ HU.out HW.out
  clear hret
  go_wp2_with fail
  refine (ref_fields v hv A' m' c' zs _ ((HR'.out.below hb1).more hb1.size) hm').mono ?_
  intro e w2 hret
  obtain ⟨⟨A2, c2, rfl, hd2⟩, hb2⟩ := hret.open_ HU.out HW.out
  have B2 := hb1.trans (hb2.mono hb1.size)
  have D1 := (hd1.below hb2).more hb2.size
  clear hret hb1 hb2 hd1
  go_wp2_with fail
  refine (hj1 _ ((HR.out.below B2).more B2.size) ((HR'.out.below B2).more B2.size)).mono ?_
  rintro e w3 ⟨rfl, q3, hw3⟩
  have B3 := below_drewN B2 q3
  have D3 := D1.drewN q3
  have E3 := hd2.drewN q3
  rw [← hw3] at B3 D3 E3
  have hs3 : w3.heap.size = w2.heap.size := by rw [hw3]; rfl
  rw [← hs3] at D3 E3
  clear hw3 hs3 B2 D1 hd2
  go_wp2_with fail
  refine (hj2 _ ((HR.out.below B3).more B3.size) ((HR'.out.below B3).more B3.size)).mono ?_
  rintro e w' ⟨rfl, rfl⟩
  go_wp2_with fail
  refine (lives02 _).mono ?_
  rintro e w4 ⟨rfl, hb4⟩
  have B4 := B3.trans (hb4.mono B3.size)
  have D4 := (D3.below hb4).more hb4.size
  have E4 := (E3.below hb4).more hb4.size
  have hsame := same_words A1 A2 us.length us.length c1 c2 _ us us _ D4 E4 (by omega) (by omega)
  rw [same_refl] at hsame
  have z1 := fun w => pack_zig n hn0 hn1 w
  have z2 := fun w => ref_zig n hn0 hn1 w
  have z3 := fun w => pack_zag v hv w
  have z4 := fun w => ref_zag v hv w
  obtain ⟨p, hp⟩ : ∃ p, zigF n = p := ⟨_, rfl⟩
  obtain ⟨p', hp'⟩ : ∃ p', zagF v = p' := ⟨_, rfl⟩
  rw [hp] at z1 z2
  rw [hp'] at z3 z4
  clear hp hp' hb4 B3 D3 E3 D4 E4 hj1 hj2
  go_wp2_with fail
  refine hsame.mono ?_
  rintro e w5 ⟨rfl, q, hw5⟩
  have B5 := below_drewN B4 q
  rw [← hw5] at B5
  clear hw5 hsame B4
  go_wp2_with (first
    | (go_at_call 46; refine (z1 _).mono ?_; rintro e w' ⟨rfl, rfl⟩)
    | (go_at_call 47; refine (z2 _).mono ?_; rintro e w' ⟨rfl, rfl⟩)
    | (go_at_call 48; refine (z3 _).mono ?_; rintro e w' ⟨rfl, rfl⟩)
    | (go_at_call 49; refine (z4 _).mono ?_; rintro e w' ⟨rfl, rfl⟩))
  go_ret
  exact ⟨rfl, B5⟩
theorem packTells_any (v : Int) (hv : Word v) (n : Int) (hn : -9223372036854775808 ≤ n ∧ n ≤ 9223372036854775807) (A : Option Addr) (m c : Nat) (ls : List Int) (hls : ∀ z ∈ ls, Word z) (A' : Option Addr) (m' c' : Nat) (zs : List Int) (w : World)
    (hr : Rd w w.heap.size A m (ls.map (.int .u64))) (hr' : Rd w w.heap.size A' m' (zs.map (.int .i64))) :
    Calls Try.prog 8 #[.int .u64 v, .slice A m c, .slice A' m' c', .int .i64 n] w fun e w' => e = .returned (.bool true) ∧ Below w.heap.size w w' := by
  obtain ⟨k, rfl, hk⟩ := word_nat hv
  by_cases h : 100 < m ∨ 100 < m'
  · exact packTells_out k n A m c A' m' c' w h
  · exact packTells_walk k hk n hn.1 hn.2 A m c ls hls A' m' c' zs w hr hr' (by omega) (by omega)
end Go.Proofs.Ytknnalaemndnaaa
