/- choose.part: those that are apart, and the others. Printed by genApC.py. -/
import Derived.Test.YtpcbfoddlpgdjaaApB
import Derived.WalkMore
namespace Go.Proofs.Ytpcbfoddlpgdjaa
open Go.RowKit
/-- The cells of candidates, one behind the other. -/
def flatC (l : List Cd) : List Value := (l.map fun x => x.cells.toList).flatten
theorem flatC_app (l : List Cd) (x : Cd) : flatC (l ++ [x]) = flatC l ++ x.cells.toList := by simp [flatC]
theorem flatC_len (l : List Cd) : (flatC l).length = l.length * 4 := by
  unfold flatC
  rw [flat_len (sz := 4) _ (fun c hc => by obtain ⟨x, _, rfl⟩ := List.mem_map.1 hc; rfl), List.length_map]
theorem ownsRow_apS {w w' : World} {EB e sz n c : Nat} {A : Option Addr} {xs : List Value} (h : w.ownsRow EB e sz (.slice A n c) n xs) (hb : ∀ g, (Value.slice A n c).ownBlock = some g → w'.heap[g]? = w.heap[g]?) : w'.ownsRow EB e sz (.slice A n c) n xs := by
  obtain ⟨h1, h2⟩ := h
  refine ⟨h1, ?_⟩
  rcases h2 with h2 | ⟨g, cap, cur, e1, e2, e3, e4, e5, e6, e7⟩
  · exact .inl h2
  · exact .inr ⟨g, cap, cur, e1, e2, (hb g (by injection e1 with e1; subst e1; rfl)).trans e3, e4, e5, e6, e7⟩
/-- A row of candidates of the call's own. -/
def OwC (w : World) (B : Nat) (A : Option Addr) (n c : Nat) (l : List Cd) : Prop := w.ownsRow B 90 4 (.slice A n c) n (flatC l) ∧ l.length = n
theorem OwC.load {w : World} {B n c : Nat} {A : Option Addr} {l : List Cd} (h : OwC w B A n c l) {j : Nat} {x : Cd} (hj : j < n) (hx : l[j]? = some x) : ∃ g, A = some ⟨g, 0, none⟩ ∧ g < w.heap.size ∧ (Instr.loadAt 90 (.pointer (some ⟨g, j * 4, none⟩))).run Try.prog w = .ok (.agg x.cells) w := by
  obtain ⟨g, cap, ev, _, hg, hr⟩ := Rs.of_own (css := l.map fun x => x.cells.toList) h.1 (fun c hc => by obtain ⟨x, _, rfl⟩ := List.mem_map.1 hc; rfl) (by rw [List.length_map]; exact h.2) (by omega)
  injection ev with ev
  subst ev
  obtain ⟨b, o, cs, e, _, hc, _, hra⟩ := hr.at_ hj
  injection e with e
  injection e with e1 e2
  subst e1 e2
  rw [List.getElem?_map, hx] at hc
  obtain rfl : x.cells.toList = cs := by simpa using hc
  rw [Nat.zero_add] at hra
  exact ⟨g, rfl, hg, range_load (xs := x.cells) hra Try.underlying90 rfl cdTS⟩
/-- Two rows of candidates, apart. -/
structure PtC (w : World) (B : Nat) (A1 : Option Addr) (n1 c1 : Nat) (l1 : List Cd) (A2 : Option Addr) (n2 c2 : Nat) (l2 : List Cd) : Prop where
  o1 : OwC w B A1 n1 c1 l1
  o2 : OwC w B A2 n2 c2 l2
  ne : ∀ b, (Value.slice A1 n1 c1).ownBlock = some b → (Value.slice A2 n2 c2).ownBlock ≠ some b
section
variable {w w' : World} {B n1 c1 n2 c2 : Nat} {A1 A2 : Option Addr} {l1 l2 : List Cd}
theorem PtC.below (h : PtC w B A1 n1 c1 l1 A2 n2 c2 l2) (hb : Below w.heap.size w w') : PtC w' B A1 n1 c1 l1 A2 n2 c2 l2 :=
  ⟨⟨ownsRow_apS h.o1.1 fun g hg => hb.block g (World.ownsRow.lt h.o1.1 g hg).2, h.o1.2⟩, ⟨ownsRow_apS h.o2.1 fun g hg => hb.block g (World.ownsRow.lt h.o2.1 g hg).2, h.o2.2⟩, h.ne⟩
theorem PtC.symm (h : PtC w B A1 n1 c1 l1 A2 n2 c2 l2) : PtC w B A2 n2 c2 l2 A1 n1 c1 l1 := ⟨h.o2, h.o1, fun b h1 h2 => h.ne b h2 h1⟩
theorem PtC.push {W5 : World} {g c' : Nat} {x : Cd} (h : PtC w B A1 n1 c1 l1 A2 n2 c2 l2) (hgr : w.grownBy W5 (Value.slice A1 n1 c1).ownBlock) (hat : (Value.slice A1 n1 c1).ownBlock = some g ∨ w.heap.size ≤ g) (ho : W5.ownsRow B 90 4 (.slice (some ⟨g, 0, none⟩) (n1 + 1) c') (n1 + 1) (flatC l1 ++ x.cells.toList)) :
    PtC W5 B (some ⟨g, 0, none⟩) (n1 + 1) c' (l1 ++ [x]) A2 n2 c2 l2 := by
  refine ⟨⟨by rw [flatC_app]; exact ho, by simp [h.o1.2]⟩, ⟨ownsRow_apS h.o2.1 fun b hb => hgr.block b (World.ownsRow.lt h.o2.1 b hb).2 (fun e => h.ne b e.symm hb), h.o2.2⟩, fun b h1 h2 => ?_⟩
  obtain rfl : g = b := by injection h1
  rcases hat with e | e
  · exact h.ne g e h2
  · have := (World.ownsRow.lt h.o2.1 g h2).2; omega
end
/-- Whether a candidate is nearer to another one than to the middle. -/
def nearB (c d : Cd) : Bool := decide (((distE c.vec.xs d.vec.xs : Nat) : Int) < c.sp.d)
def partS (p : List Cd × List Cd) (c : Cd) : List Cd × List Cd := if p.1.any (nearB c) then (p.1, p.2 ++ [c]) else (p.1 ++ [c], p.2)
def partK (f : Nat → Cd) (k : Nat) : List Cd × List Cd := (asL f k).foldl partS ([], [])
theorem partK_succ (f : Nat → Cd) (k : Nat) : partK f (k + 1) = partS (partK f k) (f k) := by
  unfold partK asL
  rw [List.range_succ, List.map_append, List.foldl_append]; rfl
theorem part_mem (f : Nat → Cd) : ∀ k, ∀ y ∈ (partK f k).1, ∃ i, i < k ∧ f i = y := by
  intro k
  induction k with
  | zero => intro y hy; simp [partK, asL] at hy
  | succ k ih =>
    intro y hy
    rw [partK_succ] at hy
    unfold partS at hy
    split at hy
    · obtain ⟨i, hi, e⟩ := ih y hy
      exact ⟨i, by omega, e⟩
    · rcases List.mem_append.1 hy with q | q
      · obtain ⟨i, hi, e⟩ := ih y q
        exact ⟨i, by omega, e⟩
      · rw [List.mem_singleton] at q
        exact ⟨k, by omega, q.symm⟩
theorem part_len : ∀ (l : List Cd) (p : List Cd × List Cd), (l.foldl partS p).1.length + (l.foldl partS p).2.length = p.1.length + p.2.length + l.length
  | [], p => by simp
  | c :: l, p => by
    rw [List.foldl_cons, part_len l]
    unfold partS
    split <;> simp <;> omega
theorem cd_putS (W : World) (x : Cd) : (Instr.storeAt 90 (.pointer (some ⟨W.heap.size, 0, none⟩)) (.agg x.cells)).run Try.prog (W.alloc (.cells cd0.cells 90)) = .ok () ((W.alloc (.cells cd0.cells 90)).setCells W.heap.size 0 x.cells.toList) :=
  row_store (Blk.new W 90 cd0.cells) x.cells rfl cdTS (by simp [Cd.cells, Value.oneCell', IS.v])
theorem cd_blkS (W : World) (x : Cd) : Blk ((W.alloc (.cells cd0.cells 90)).setCells W.heap.size 0 x.cells.toList) W.heap.size 90 x.cells := (Blk.new W 90 cd0.cells).put _ rfl
theorem cd_loadS {w : World} {b : Nat} {x : Cd} (h : Blk w b 90 x.cells) : (Instr.loadAt 90 (.pointer (some ⟨b, 0, none⟩))).run Try.prog w = .ok (.agg x.cells) w :=
  range_load (xs := x.cells) h.range Try.underlying90 rfl cdTS
theorem HdC.loadR {w : World} {g n k : Nat} {f : Nat → Cd} (h : HdC w g n f) (hk : k < n) : (Instr.loadAt 90 (.pointer (some ⟨g, k * 4, none⟩))).run Try.prog w = .ok (.agg (f k).cells) w := by
  have := h.load hk
  rw [Nat.zero_add] at this
  exact this
/-- Those apart, and the others. -/
def RetP (p : List Cd × List Cd) (w : World) (e : Ending) (w' : World) : Prop := ∃ A1 n1 c1 A2 n2 c2 B, e = .returned (.tuple #[.slice A1 n1 c1, .slice A2 n2 c2]) ∧ w.heap.size ≤ B ∧ B ≤ w'.heap.size ∧ PtC w' B A1 n1 c1 p.1 A2 n2 c2 p.2 ∧ Below w.heap.size w w'
set_option maxRecDepth 100000 in
set_option maxHeartbeats 16000000 in
theorem ch_partS (A : Option Addr) (n c : Nat) (L : List Sp) (A2 : Option Addr) (c2 : Nat) (its : List ItX) (w : World) (hs : SpAt w w.heap.size A n L) (hI : Its w w.heap.size A2 n its) (hn : n ≤ 40) :
    Calls Try.prog 41 #[.slice A n c, .slice A2 n c2] w fun e w' => ∃ f', (asL f' n).Perm (asL (cdF L its) n) ∧ Srt (leC ltC) f' 0 n ∧ RetP (partK f' n) w e w' := by
  have HSO := Lib.hid (ch_sortedS A n c L A2 c2 its w hs hI hn)
  have HVS : Hid (∀ i, i < n → (cdF L its i).vec.Vec w w.heap.size) := fun i hi => by
    obtain ⟨_, _, d, _, _, hd, hv, _⟩ := hI.at_ hi
    rw [cdF_at hd]; exact hv
  clear hs hI
  go_enter Try.func41, Try.ntmps41
  go_wp2
  go_step3
  go_wp2
  go_step3
  go_wp2_with (go_at_call 57; (with_reducible refine HSO.out.mono ?_); rintro e w1 ⟨h, f, rfl, k1, k2, k3, k4, k5⟩; have HK := Lib.hid k1; have HP := Lib.hid k2; have HQ := Lib.hid k3; have HH := Lib.hid k4; have HB1 := Lib.hid k5; clear k1 k2 k3 k4 k5)
  have hs1 := HB1.out.size
  have HVF : Hid (∀ i, i < n → (f i).vec.Vec w w.heap.size) := fun i hi => by
    have hm : f i ∈ asL (cdF L its) n := HP.out.mem_iff.1 (List.mem_map.2 ⟨i, List.mem_range.2 hi, rfl⟩)
    obtain ⟨j, hj, e⟩ := List.mem_map.1 hm
    rw [← e]; exact HVS.out j (List.mem_range.1 hj)
  have HPM : Hid (∀ k, ∀ y ∈ (partK f k).1, ∃ i, i < k ∧ f i = y) := part_mem f
  clear HSO HVS
  go_loopw [4, 5, 7, 9, 14] (fun s4 s5 _ _ s14 wr => ∃ (k : Nat) (B1 : Option Addr) (n1 d1 : Nat) (B2 : Option Addr) (n2 d2 : Nat), k ≤ n ∧ n1 ≤ k ∧ n2 ≤ k ∧ s14 = .int .i64 k ∧ s4 = .slice B1 n1 d1 ∧ s5 = .slice B2 n2 d2 ∧ Hid (PtC wr w1.heap.size B1 n1 d1 (partK f k).1 B2 n2 d2 (partK f k).2) ∧ Hid (Below w1.heap.size w1 wr)) (fun _ _ _ _ s14 _ => n - (intOf s14).toNat)
  case atStart => exact ⟨0, none, 0, 0, none, 0, 0, Nat.zero_le _, Nat.zero_le _, Nat.zero_le _, rfl, rfl, rfl, Lib.hid ⟨⟨World.ownsRow_nil _ _ _ _, rfl⟩, ⟨World.ownsRow_nil _ _ _ _, rfl⟩, (fun b h => by cases h)⟩, Below.refl _ _⟩
  case round =>
    obtain ⟨k, B1, n1, d1, B2, n2, d2, hk, hn1, hn2, rfl, rfl, rfl, HPT, HB⟩ := hrel
    by_cases hlt : k < n
    · have LX := (HK.out.bel HB.out).loadR hlt
      have hvx := HVF.out k hlt
      have HPS : Hid (partK f (k + 1) = partS (partK f k) (f k)) := partK_succ f k
      obtain ⟨x, hx⟩ : ∃ x, f k = x := ⟨_, rfl⟩
      rw [hx] at LX hvx HPS
      obtain ⟨⟨li, lo⟩, hp⟩ : ∃ p, partK f k = p := ⟨_, rfl⟩
      rw [hp] at HPT HPS
      have HPK := Lib.hid hp
      obtain ⟨xb, hxb⟩ : ∃ xb, wr.heap.size = xb := ⟨_, rfl⟩
      have kx := Blk.new wr 90 x.cells
      have b3 := bel_box wr (.cells x.cells 90)
      obtain ⟨W3, hW3⟩ : ∃ W3, wr.alloc (.cells x.cells 90) = W3 := ⟨_, rfl⟩
      rw [hW3] at kx b3
      rw [hxb] at kx
      have hxl : xb < W3.heap.size := kx.lt
      have KX := Lib.hid kx
      have HPT3 := Lib.hid (HPT.out.below b3)
      have HB3 : Hid (Below w1.heap.size w1 W3) := HB.out.trans (b3.mono HB.out.size)
      have HVX := Lib.hid hvx
      have hb3s := HB3.out.size
      simp only at HPT3 HPS
      unfold Cd.cells IS.v at LX hW3
      have HXB := Lib.hid hxb
      have HW3 := Lib.hid hW3
      clear hx hp hvx hW3 kx b3 hxb HPT HB
      go_upto_region 4 with (first
        | refine wpList_loadE LX _ rfl rfl rfl ?_)
      clear LX
      rw [HW3.out]
      (try rw [HXB.out])
      clear HW3
      have HLI : Hid (∀ y ∈ li, y.vec.Vec w w.heap.size) := fun y hy => by
        obtain ⟨i, hi, rfl⟩ := HPM.out k y (by rw [HPK.out]; exact hy)
        exact HVF.out i (by omega)
      have HW13 : Hid (Below w.heap.size w W3) := HB1.out.trans (HB3.out.mono hs1)
      have hlil : li.length = n1 := HPT3.out.o1.2
      clear HPK
      go_wp2_with fail
      go_loopw [5, 9, 20] (fun s5 _ s20 wr => ∃ j : Nat, j ≤ n1 ∧ s20 = .int .i64 j ∧ s5 = .slice B2 n2 d2 ∧ Hid ((li.take j).any (nearB x) = false) ∧ Hid (Below W3.heap.size W3 wr)) (fun _ _ s20 _ => n1 - (intOf s20).toNat)
      case atStart => exact ⟨0, Nat.zero_le _, rfl, rfl, Lib.hid (by simp), Below.refl _ _⟩
      case round =>
        obtain ⟨j, hj, rfl, rfl, HNO, HB5⟩ := hrel
        have hs5 := HB5.out.size
        by_cases hlt2 : j < n1
        · have HPT5 := Lib.hid (HPT3.out.below HB5.out)
          obtain ⟨y, hy⟩ : ∃ y, li[j]? = some y := ⟨_, List.getElem?_eq_getElem (by rw [hlil]; exact hlt2)⟩
          obtain ⟨g1, rfl, hg1, LY⟩ := HPT5.out.o1.load hlt2 hy
          have hvy := HLI.out y (List.mem_of_getElem? hy)
          have HTK : Hid ((li.take (j + 1)).any (nearB x) = nearB x y) := by
            show _ = _
            rw [List.take_add_one, hy, List.any_append, HNO.out]; simp
          obtain ⟨yb, hyb⟩ : ∃ yb, wr.heap.size = yb := ⟨_, rfl⟩
          have ky := Blk.new wr 90 y.cells
          have b5 := bel_box wr (.cells y.cells 90)
          obtain ⟨W5, hW5⟩ : ∃ W5, wr.alloc (.cells y.cells 90) = W5 := ⟨_, rfl⟩
          rw [hW5] at ky b5
          rw [hyb] at ky
          have HW35 : Hid (Below W3.heap.size W3 W5) := HB5.out.trans (b5.mono hs5)
          have HW05 : Hid (Below w.heap.size w W5) := HW13.out.trans (HW35.out.mono HW13.out.size)
          have KX5 := Lib.hid (KX.out.below HW35.out hxl)
          have hx5 := KX5.out.lt
          have hy5 := ky.lt
          have HCL : Hid (∀ W : World, Below W5.heap.size W5 W → W.cell? ⟨xb, 3, none⟩ = some (.slice x.vec.A x.vec.n x.vec.c) ∧ W.cell? ⟨xb, 0, none⟩ = some (.int .u64 x.sp.d) ∧ W.cell? ⟨yb, 3, none⟩ = some (.slice y.vec.A y.vec.n y.vec.c)) := fun W hb =>
            ⟨(hb.cell (p := ⟨xb, 3, none⟩) hx5).trans (KX5.out.cell 3), (hb.cell (p := ⟨xb, 0, none⟩) hx5).trans (KX5.out.cell 0), (hb.cell (p := ⟨yb, 3, none⟩) hy5).trans (ky.cell 3)⟩
          have HDS : Hid (∀ W : World, Below W5.heap.size W5 W → Calls Try.prog 25 #[.slice x.vec.A x.vec.n x.vec.c, .slice y.vec.A y.vec.n y.vec.c] W fun e w' => e = .returned (.int .u64 (distE x.vec.xs y.vec.xs : Nat)) ∧ W = w') := fun W hb =>
            dist_c x.vec y.vec W w.heap.size (HVX.out.below (HW05.out.trans (hb.mono HW05.out.size))) (hvy.below (HW05.out.trans (hb.mono HW05.out.size)))
          have HY5 := Lib.hid hy5
          unfold Cd.cells IS.v at LY hW5
          have HW5 := Lib.hid hW5
          have HYB := Lib.hid hyb
          obtain ⟨nb, hnb⟩ : ∃ nb, nearB x y = nb := ⟨_, rfl⟩
          have HNB : Hid (decide (((distE x.vec.xs y.vec.xs : Nat) : Int) < x.sp.d) = nb) := hnb
          rw [hnb] at HTK
          clear hvy hW5 ky b5 hyb hy hg1 hnb HPT5
          go_upto_region 7 with (first
            | refine wpList_loadE LY _ rfl rfl rfl ?_)
          clear LY
          rw [HW5.out]
          (try rw [HYB.out])
          clear HW5
          refine wp_region_held_drew (S := fun W => Below W5.heap.size W5 W) (by kernel_rfl) (below_drewN (Below.refl _ W5) 1) (fun hH => ?_)
          obtain ⟨W6, hW6⟩ : ∃ q, W5.drew = q := ⟨_, rfl⟩
          rw [hW6] at hH ⊢
          clear hW6
          refine wpAnyH_take (i := 0) (v := .pointer (some ⟨xb, 3, none⟩)) rfl (by kernel_rfl) (by kernel_rfl) (by kernel_rfl) (fun _ _ _ h => h) (.inl ⟨by rfl, fun _ _ => by kernel_rfl⟩) hH ?_
          (try simp only [List.getElem_toArray, List.getElem_cons_zero, Act.put, List.setIfInBounds_toArray, List.set_cons_zero, List.set_cons_succ])
          refine wpAnyH_take (i := 1) (v := .slice x.vec.A x.vec.n x.vec.c) rfl (by kernel_rfl) (by kernel_rfl) (by kernel_rfl) (fun _ _ _ h => h) (yieldsIf_loadP (by rfl) _ rfl rfl (fun _ q => load_i32sK ((HCL.out _ q).1))) hH ?_
          (try simp only [List.getElem_toArray, List.getElem_cons_zero, List.getElem_cons_succ, Act.put, List.setIfInBounds_toArray, List.set_cons_zero, List.set_cons_succ])
          refine wpAnyH_take (i := 2) (v := .pointer (some ⟨yb, 3, none⟩)) rfl (by kernel_rfl) (by kernel_rfl) (by kernel_rfl) (fun _ _ _ h => h) (.inl ⟨by rfl, fun _ _ => by kernel_rfl⟩) hH ?_
          (try simp only [List.getElem_toArray, List.getElem_cons_zero, List.getElem_cons_succ, Act.put, List.setIfInBounds_toArray, List.set_cons_zero, List.set_cons_succ])
          refine wpAnyH_take (i := 3) (v := .slice y.vec.A y.vec.n y.vec.c) rfl (by kernel_rfl) (by kernel_rfl) (by kernel_rfl) (fun _ _ _ h => h) (yieldsIf_loadP (by rfl) _ rfl rfl (fun _ q => load_i32sK ((HCL.out _ q).2.2))) hH ?_
          (try simp only [List.getElem_toArray, List.getElem_cons_zero, List.getElem_cons_succ, Act.put, List.setIfInBounds_toArray, List.set_cons_zero, List.set_cons_succ])
          refine wpAnyH_take (i := 5) (v := .pointer (some ⟨xb, 0, none⟩)) rfl (by kernel_rfl) (by kernel_rfl) (by kernel_rfl) (fun _ _ _ h => h) (.inl ⟨by rfl, fun _ _ => by kernel_rfl⟩) hH ?_
          (try simp only [List.getElem_toArray, List.getElem_cons_zero, List.getElem_cons_succ, Act.put, List.setIfInBounds_toArray, List.set_cons_zero, List.set_cons_succ])
          refine wpAnyH_take (i := 6) (v := .pointer (some ⟨xb, 0, none⟩)) rfl (by kernel_rfl) (by kernel_rfl) (by kernel_rfl) (fun _ _ _ h => h) (.inl ⟨by rfl, fun _ _ => by kernel_rfl⟩) hH ?_
          (try simp only [List.getElem_toArray, List.getElem_cons_zero, List.getElem_cons_succ, Act.put, List.setIfInBounds_toArray, List.set_cons_zero, List.set_cons_succ])
          refine wpAnyH_take (i := 7) (v := .pointer (some ⟨xb, 0, none⟩)) rfl (by kernel_rfl) (by kernel_rfl) (by kernel_rfl) (fun _ _ _ h => h) (.inl ⟨by rfl, fun _ _ => by kernel_rfl⟩) hH ?_
          (try simp only [List.getElem_toArray, List.getElem_cons_zero, List.getElem_cons_succ, Act.put, List.setIfInBounds_toArray, List.set_cons_zero, List.set_cons_succ])
          refine wpAnyH_take (i := 8) (v := .int .u64 x.sp.d) rfl (by kernel_rfl) (by kernel_rfl) (by kernel_rfl) (fun _ _ _ h => h) (yieldsIf_loadP (by rfl) _ rfl rfl (fun _ q => load_u64K ((HCL.out _ q).2.1))) hH ?_
          (try simp only [List.getElem_toArray, List.getElem_cons_zero, List.getElem_cons_succ, Act.put, List.setIfInBounds_toArray, List.set_cons_zero, List.set_cons_succ])
          refine wpAnyH_call 4 25 #[.slice x.vec.A x.vec.n x.vec.c, .slice y.vec.A y.vec.n y.vec.c] _ (by kernel_rfl) (by rfl) (by kernel_rfl) (by kernel_rfl) (HDS.out _ hH) ?_
          rintro e w9 ⟨rfl, rfl⟩
          refine ⟨_, rfl, hH, ?_⟩
          (try simp only [List.getElem_toArray, List.getElem_cons_zero, List.getElem_cons_succ, Act.put, List.setIfInBounds_toArray, List.set_cons_zero, List.set_cons_succ])
          refine wpAnyH_take (i := 9) (v := .bool nb) rfl (by kernel_rfl) (by kernel_rfl) (by kernel_rfl) (fun _ _ _ h => h) (yieldsIf_lssS HNB.out (by rfl) _ _ rfl rfl rfl) hH ?_
          (try simp only [List.getElem_toArray, List.getElem_cons_zero, List.getElem_cons_succ, Act.put, List.setIfInBounds_toArray, List.set_cons_zero, List.set_cons_succ])
          refine wpAnyH_done (by kernel_rfl) ?_ _
          have HB6 : Hid (Below W3.heap.size W3 W6) := HW35.out.trans (hH.mono HW35.out.size)
          have KX6 := Lib.hid (KX.out.below HB6.out hxl)
          clear hH HCL HDS HNB
          cases nb with
          | false =>
            go_wp2_with fail
            go_roundw
            case rel => exact ⟨j + 1, by omega, by go_num, rfl, HTK, HB6⟩
            case measure => simp [intOf]; omega
          | true =>
            have HPT6 := Lib.hid (HPT3.out.below HB6.out)
            have LX6 := cd_loadS KX6.out
            have HNA : Hid (partS (li, lo) x = (li, lo ++ [x])) := by
              show _ = _
              unfold partS
              have : li.any (nearB x) = true := by
                obtain ⟨y, hy1, hy2⟩ := List.any_eq_true.1 HTK.out
                exact List.any_eq_true.2 ⟨y, List.mem_of_mem_take hy1, hy2⟩
              rw [if_pos this]
            have HB16 : Hid (Below w1.heap.size w1 W6) := HB3.out.trans (HB6.out.mono hb3s)
            have hb16 := HB16.out.size
            have h1x := cd_oneS x
            unfold Cd.cells IS.v at LX6 h1x
            go_wp2_with (first
              | refine wpList_loadE LX6 _ rfl rfl rfl ?_
              | (at_builtin; refine wpList_push1 rfl (.tmp 34) (.tmp 36) 71 90 4 48 _ rfl Try.underlying71 info_cdS rfl (by decide) W6 w1.heap.size (.slice B2 n2 d2) n2 (flatC lo) #[.int .u64 x.sp.d, .int .u64 x.sp.id, .int .i64 x.sp.s, .slice x.vec.A x.vec.n x.vec.c] rfl HPT6.out.o2.1 rfl rfl h1x (by omega) (by decide) hb16 ?_; intro g2 c4 W7 ho hgr hbb hat; have HPT7 : Hid (PtC W7 w1.heap.size (some ⟨g1, 0, none⟩) n1 d1 li (some ⟨g2, 0, none⟩) (n2 + 1) c4 (lo ++ [x])) := (HPT6.out.symm.push (x := x) hgr hat ho).symm; have HB7 : Hid (Below w1.heap.size w1 W7) := HB16.out.trans hbb; clear ho hgr hbb hat))
            clear LX6
            go_roundw
            case rel => exact ⟨k + 1, some ⟨g1, 0, none⟩, n1, d1, some ⟨g2, 0, none⟩, n2 + 1, c4, by omega, by omega, by omega, by go_num, rfl, rfl, by rw [HPS.out, HNA.out]; exact HPT7, HB7⟩
            case measure => simp [intOf]; omega
        · obtain rfl : j = n1 := by omega
          have HB6 := HB5
          have HPT6 := Lib.hid (HPT3.out.below HB6.out)
          have LX6 := cd_loadS (KX.out.below HB6.out hxl)
          have HNA : Hid (partS (li, lo) x = (li ++ [x], lo)) := by
            show _ = _
            unfold partS
            have h1 := HNO.out
            rw [← hlil, List.take_length] at h1
            rw [if_neg (by rw [h1]; decide)]
          have HB16 : Hid (Below w1.heap.size w1 wr) := HB3.out.trans (HB6.out.mono hb3s)
          have hb16 := HB16.out.size
          have h1x := cd_oneS x
          unfold Cd.cells IS.v at LX6 h1x
          clear HNO
          go_wp2_with (first
            | refine wpList_loadE LX6 _ rfl rfl rfl ?_
            | (at_builtin; refine wpList_push1 rfl (.tmp 39) (.tmp 41) 71 90 4 48 _ rfl Try.underlying71 info_cdS rfl (by decide) wr w1.heap.size (.slice B1 j d1) j (flatC li) #[.int .u64 x.sp.d, .int .u64 x.sp.id, .int .i64 x.sp.s, .slice x.vec.A x.vec.n x.vec.c] rfl HPT6.out.o1.1 rfl rfl h1x (by omega) (by decide) hb16 ?_; intro g2 c4 W7 ho hgr hbb hat; have HPT7 : Hid (PtC W7 w1.heap.size (some ⟨g2, 0, none⟩) (j + 1) c4 (li ++ [x]) B2 n2 d2 lo) := HPT6.out.push (x := x) hgr hat ho; have HB7 : Hid (Below w1.heap.size w1 W7) := HB16.out.trans hbb; clear ho hgr hbb hat))
          clear LX6
          go_roundw
          case rel => exact ⟨k + 1, some ⟨g2, 0, none⟩, j + 1, c4, B2, n2, d2, by omega, by omega, by omega, by go_num, rfl, rfl, by rw [HPS.out, HNA.out]; exact HPT7, HB7⟩
          case measure => simp [intOf]; omega
    · obtain rfl : k = n := by omega
      have HF : Hid (∃ f', (asL f' k).Perm (asL (cdF L its) k) ∧ Srt (leC ltC) f' 0 k ∧ RetP (partK f' k) w (.returned (.tuple #[.slice B1 n1 d1, .slice B2 n2 d2])) wr) := ⟨f, HP.out, HQ.out, _, _, _, _, _, _, w1.heap.size, rfl, hs1, HB.out.size, HPT.out, HB1.out.trans (HB.out.mono hs1)⟩
      go_wp2
      (try rw [Exit.noGoto_ret])
      refine bodyPost_ret (v := .tuple #[.slice B1 n1 d1, .slice B2 n2 d2]) (by simp [results, Try.results41, go_sem]) rfl ?_
      exact HF.out
end Go.Proofs.Ytpcbfoddlpgdjaa
