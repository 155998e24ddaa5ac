/- Sketches: places, the nearest first, of two. -/
import Derived.Test.YtlmgfbhgamchgaaSkL
namespace Go.Proofs.Ytlmgfbhgamchgaa
open Go.RowKit
open Go.Sort hiding Below
set_option maxRecDepth 100000 in
theorem cmp_or2 (A : Option Addr) (L : Nat) (x y : Int) (w : World) (hr : Rd w L A 2 ([x, y].map (.int .i64))) :
    Calls Try.prog 31 #[.slice A 2 2] w fun e w' => e = .returned (.int .i64 (if x = 0 then y else x)) ∧ w = w' := by
  have H := Lib.hid hr
  obtain ⟨b, o, rfl, hb, hc0⟩ := hr.atI (k := 0) (by decide)
  obtain ⟨b', o', e', _, hc1⟩ := hr.atI (k := 1) (by decide)
  obtain ⟨rfl, rfl⟩ : b = b' ∧ o = o' := by injection e' with e'; injection e' with h1 h2; exact ⟨h1, h2⟩
  have hx : ig [x, y] 0 = x := rfl
  have hy : ig [x, y] 1 = y := rfl
  rw [hx, Nat.add_zero] at hc0
  rw [hy] at hc1
  clear hr e' H
  by_cases h0 : x = 0
  · subst h0
    by_cases h1 : y = 0
    · subst h1
      go_enter Try.func31, Try.ntmps31
      go_wp2_with fail
      go_loopw [8] (fun i wr => ∃ k : Nat, k ≤ 2 ∧ i = .int .i64 k ∧ w = wr) (fun i _ => 2 - (intOf i).toNat)
      case atStart => exact ⟨0, by decide, rfl, rfl⟩
      case round =>
        obtain ⟨k, hk, rfl, rfl⟩ := hrel
        rcases (by omega : k = 0 ∨ k = 1 ∨ k = 2) with rfl | rfl | rfl
        · go_wp2_with fail
          go_roundw
          case rel => exact ⟨1, by decide, by go_num, trivial⟩
          case measure => simp [intOf]
        · go_wp2_with fail
          go_roundw
          case rel => exact ⟨2, by decide, by go_num, trivial⟩
          case measure => simp [intOf]
        · go_wp2_with fail
          go_ret
          exact ⟨rfl, rfl⟩
    · have ty : (y == 0) = false := beq_false_of_ne h1
      go_enter Try.func31, Try.ntmps31
      go_wp2_with fail
      go_loopw [8] (fun i wr => ∃ k : Nat, k ≤ 1 ∧ i = .int .i64 k ∧ w = wr) (fun i _ => 2 - (intOf i).toNat)
      case atStart => exact ⟨0, by decide, rfl, rfl⟩
      case round =>
        obtain ⟨k, hk, rfl, rfl⟩ := hrel
        rcases (by omega : k = 0 ∨ k = 1) with rfl | rfl
        · go_wp2_with fail
          go_roundw
          case rel => exact ⟨1, by decide, by go_num, trivial⟩
          case measure => simp [intOf]
        · go_wp2_with fail
          go_ret
          exact ⟨rfl, rfl⟩
  · have tx : (x == 0) = false := beq_false_of_ne h0
    rw [if_neg h0]
    go_enter Try.func31, Try.ntmps31
    go_wp2_with fail
    go_loopw [8] (fun i wr => i = .int .i64 0 ∧ w = wr) (fun i _ => 2 - (intOf i).toNat)
    case atStart => exact ⟨rfl, rfl⟩
    case round =>
      obtain ⟨rfl, rfl⟩ := hrel
      go_wp2_with fail
      go_ret
      exact ⟨rfl, rfl⟩
theorem ints2_new (w : World) (t : Nat) (x y : Int) : Rd (w.alloc (.cells #[.int .i64 x, .int .i64 y] t)) (w.alloc (.cells #[.int .i64 x, .int .i64 y] t)).heap.size (some ⟨w.heap.size, 0, none⟩) 2 ([x, y].map (.int .i64)) :=
  IB.rd (g := w.heap.size) (t := t) (cs := [x, y]) ⟨[], by rw [heap_alloc_new]; simp⟩
set_option maxRecDepth 100000 in
theorem near_cmp (x y : FarE) (w : World) :
    Calls Try.prog 30 #[.agg #[.int .i64 (x.1.val : Int), .int .i64 (x.2.val : Int)], .agg #[.int .i64 (y.1.val : Int), .int .i64 (y.2.val : Int)]] w fun e w' => e = .returned (.int .i64 (farCf x y)) ∧ ∃ q os', w' = grow (w.drewN q) os' := by
  obtain ⟨⟨a, ha⟩, ⟨p, hp⟩⟩ := x
  obtain ⟨⟨b, hb⟩, ⟨q, hq⟩⟩ := y
  unfold farCf
  show Calls _ _ #[.agg #[.int .i64 (a : Int), .int .i64 (p : Int)], .agg #[.int .i64 (b : Int), .int .i64 (q : Int)]] w fun e w' => e = .returned (.int .i64 (if (a : Int) - b = 0 then (p : Int) - q else (a : Int) - b)) ∧ _
  have hw1 : IntKind.i64.wrap ((a : Int) - b) = (a : Int) - b := by simp only [IntKind.wrap, IntKind.bits, IntKind.signed]; simp; omega
  have hw2 : IntKind.i64.wrap ((p : Int) - q) = (p : Int) - q := by simp only [IntKind.wrap, IntKind.bits, IntKind.signed]; simp; omega
  obtain ⟨z, hz⟩ : ∃ z, (if (a : Int) - b = 0 then (p : Int) - q else (a : Int) - b) = z := ⟨_, rfl⟩
  rw [hz]
  have HZ := Lib.hid hz
  clear hz
  go_enter Try.func30, Try.ntmps30
  go_wp2_with fail
  obtain ⟨W2, hW2⟩ : ∃ x, ((w.alloc (.cells #[.int .i64 (a : Int), .int .i64 (p : Int)] 61)).alloc (.cells #[.int .i64 (b : Int), .int .i64 (q : Int)] 61)) = x := ⟨_, rfl⟩
  have hs : W2.heap.size = w.heap.size + 1 + 1 := by rw [← hW2]; simp only [World.alloc, Array.size_push]
  rw [hW2, ← hs]
  have HW := Lib.hid hW2
  refine (cmp_or2 _ _ ((a : Int) - b) ((p : Int) - q) _ (ints2_new W2 3 ((a : Int) - b) ((p : Int) - q))).mono ?_
  rw [HZ.out]
  rintro e w' ⟨rfl, rfl⟩
  clear hW2 hs
  go_wp2_with fail
  go_ret
  obtain ⟨os', ho⟩ : ∃ os', W2.alloc (.cells #[.int .i64 ((a : Int) - b), .int .i64 ((p : Int) - q)] 3) = grow w os' := by
    rw [← HW.out, alloc_eq_grow, alloc_eq_grow, alloc_eq_grow, grow_grow, grow_grow]
    exact ⟨_, rfl⟩
  exact ⟨rfl, 0, os', ho⟩
theorem near_lays (blk off size : Nat) (w : World) : CmpLays Try.prog 30 #[] farEnc 2 farCf blk off size w := fun _ _ _ _ x y => near_cmp x y _
def nearF : Value := .func (.func 30) #[] #[]
/-- The two, in order as they are. -/
theorem near_sort (K t D : Nat) (hD : D ≤ 4096) (w : World) (h : Blk w K t #[.int .i64 0, .int .i64 0, .int .i64 D, .int .i64 1]) :
    Calls Try.prog 29 #[.slice (some ⟨K, 0, none⟩) 2 2, nearF] w fun e w' => e = .returned (.tuple #[]) ∧ ∃ n os, w' = grow (Go.Sort.ahead w n) os := by
  obtain ⟨x, hx⟩ : ∃ x : FarE, x = (⟨0, by decide⟩, ⟨0, by decide⟩) := ⟨_, rfl⟩
  obtain ⟨y, hy⟩ : ∃ y : FarE, y = (⟨D, by omega⟩, ⟨1, by decide⟩) := ⟨_, rfl⟩
  have hfl : flatK farEnc 2 #[x, y] = #[.int .i64 0, .int .i64 0, .int .i64 D, .int .i64 1] := by
    subst hx hy
    refine Array.ext (by simp [flatK]) fun i h1 h2 => ?_
    have h4 : i < 4 := h2
    rcases (by omega : i = 0 ∨ i = 1 ∨ i = 2 ∨ i = 3) with rfl | rfl | rfl | rfl <;> simp [flatK, farEnc]
  have hH : HoldsK farEnc 2 w K 0 #[x, y] := by
    unfold HoldsK
    rw [hfl]
    intro j hj
    refine ⟨?_, h.frozen _⟩
    rw [Nat.zero_add, h.cell j]
    have hj' : j < 4 := hj
    rcases (by omega : j = 0 ∨ j = 1 ∨ j = 2 ∨ j = 3) with rfl | rfl | rfl | rfl <;> rfl
  have eg : ∀ args w, (callFunc 30 args).run Try.prog w = .ok (.enter 30 args) w := enters_of Try.func30 (by kernel_rfl) rfl
  refine (AnyQ.slices_SortFunc sortFar 2 Try.isAgg61 Try.sizeOf61 farEnc (fun _ => rfl) (fun x v hv => by simp [farEnc] at hv; rcases hv with rfl | rfl <;> rfl) farCf far_swo 30 #[] K 0 2 #[x, y] w eg (near_lays K 0 2 w) hH h.lt (by show 2 < _; decide)).mono ?_
  rintro e w' ⟨rfl, d', n, os, hp, hs, rfl⟩
  refine ⟨rfl, n, os, ?_⟩
  have hd : d' = #[x, y] := by
    obtain ⟨hsz, _, hpm⟩ := hp
    have h2 : d'.size = 2 := hsz
    obtain ⟨l⟩ := d'
    have hl : l.length = 2 := h2
    match l, hl with
    | [a, b], _ =>
    have hpm' : [a, b].Perm [x, y] := hpm
    have hs' := hs 0 1 (by decide) (by decide) (by show 1 < 2; decide)
    have hs2 : ltOf farCf b a = false := hs'
    have hm : a ∈ [x, y] := hpm'.mem_iff.1 (by simp)
    rcases List.mem_cons.1 hm with rfl | hm
    · have hb : b ∈ [y] := by
        have := (List.perm_cons a).1 hpm'
        exact this.mem_iff.1 (by simp)
      simp at hb
      rw [hb]
    · simp at hm
      subst hm
      have hb : b = x := by
        have := (List.perm_cons a).1 (hpm'.trans (List.Perm.swap a x []))
        simpa using this.mem_iff.1 (show b ∈ [b] by simp)
      rw [hb, far_lt, hx, hy] at hs2
      have h0 := of_decide_eq_false hs2
      exfalso
      apply h0
      show 0 < D ∨ (0 = D ∧ 0 < 1)
      omega
  rw [hd]
  unfold sortWorldK
  rw [putRowK_self farEnc 2 _ K 0 _ (holdsK_ahead farEnc 2 w n K 0 _ hH)]
end Go.Proofs.Ytlmgfbhgamchgaa
