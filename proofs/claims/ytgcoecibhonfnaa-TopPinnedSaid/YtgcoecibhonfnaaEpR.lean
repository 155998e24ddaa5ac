/- Lists of pairs of numbers; what is in limbo: Retire. -/
import Derived.Test.YtgcoecibhonfnaaEpN
import Derived.Deep.AppendLies
import Derived.Deep.RegionLaw
namespace Go.Proofs.Ytgcoecibhonfnaa
open Go.RowKit
/-- A slice of n pairs, flat, is read. -/
def Rd2 (w : World) (B : Nat) (A : Option Addr) (n : Nat) (fl : List Int) : Prop :=
  fl.length = n * 2 ∧ (0 < n → ∃ b o, A = some ⟨b, o, none⟩ ∧ b < B ∧ ∀ k, k < n * 2 → w.cell? ⟨b, o + k, none⟩ = some (.int .i64 (ig fl k)))
theorem Rd2.keep {w w' : World} {B : Nat} {A : Option Addr} {n : Nat} {fl : List Int} (h : Rd2 w B A n fl) (hk : ∀ p : Addr, p.block < B → w'.cell? p = w.cell? p) : Rd2 w' B A n fl := by
  refine ⟨h.1, fun hn => ?_⟩
  obtain ⟨b, o, h1, h2, h3⟩ := h.2 hn
  exact ⟨b, o, h1, h2, fun k hk' => (hk ⟨b, o + k, none⟩ h2).trans (h3 k hk')⟩
theorem Rd2.below {w w' : World} {B : Nat} {A : Option Addr} {n : Nat} {fl : List Int} (h : Rd2 w B A n fl) (hb : Below B w w') : Rd2 w' B A n fl := h.keep fun _ hp => hb.cell hp
theorem Rd2.more {w : World} {B B' : Nat} {A : Option Addr} {n : Nat} {fl : List Int} (h : Rd2 w B A n fl) (hB : B ≤ B') : Rd2 w B' A n fl := by
  refine ⟨h.1, fun hn => ?_⟩
  obtain ⟨b, o, h1, h2, h3⟩ := h.2 hn
  exact ⟨b, o, h1, by omega, h3⟩
theorem Rd2.at_ {w : World} {B : Nat} {A : Option Addr} {n : Nat} {fl : List Int} (h : Rd2 w B A n fl) {k : Nat} (hk : k < n) :
    ∃ b o, A = some ⟨b, o, none⟩ ∧ b < B ∧ w.cell? ⟨b, o + k * 2, none⟩ = some (.int .i64 (ig fl (k * 2))) ∧ w.cell? ⟨b, o + k * 2 + 1, none⟩ = some (.int .i64 (ig fl (k * 2 + 1))) := by
  obtain ⟨b, o, h1, h2, h3⟩ := h.2 (by omega)
  exact ⟨b, o, h1, h2, h3 _ (by omega), by rw [Nat.add_assoc]; exact h3 _ (by omega)⟩
theorem Rd2.of_own {w : World} {base e n c : Nat} {A : Option Addr} {fl : List Int} (h : w.ownsRow base e 2 (.slice A n c) n (fl.map (.int .i64))) : Rd2 w w.heap.size A n fl := by
  refine ⟨by simpa using h.1, fun hn => ?_⟩
  rcases h.2 with ⟨_, h1⟩ | ⟨g, cap, cur, h1, _, h3, _, _, _, h7⟩
  · omega
  · injection h1 with h1 _ _
    refine ⟨g, 0, h1, (Array.getElem?_eq_some_iff.1 h3).1, fun k hk => ?_⟩
    rw [cell_of_row w g (0 + k) cur e (0, 0) h3, Nat.zero_add]
    have hl : fl.length = n * 2 := by simpa using h.1
    have e1 : (cur.toList.take (n * 2))[k]? = (fl.map (Value.int .i64))[k]? := by rw [h7]
    rw [List.getElem?_take_of_lt hk, Array.getElem?_toList] at e1
    rw [e1, List.getElem?_map, List.getElem?_eq_getElem (by omega)]
    simp [ig, List.getD_eq_getElem?_getD, List.getElem?_eq_getElem (show k < fl.length by omega)]
/-- Whether a slot is in limbo. -/
def slotIn (fl : List Int) (n : Nat) (s : Int) : Bool := (List.range n).any fun k => ig fl (k * 2) == s
theorem slotIn_succ (fl : List Int) (n : Nat) (s : Int) : slotIn fl (n + 1) s = (slotIn fl n s || ig fl (n * 2) == s) := by
  simp [slotIn, List.range_succ, List.any_append]
theorem slotIn_mono {fl : List Int} {n m : Nat} {s : Int} (h : slotIn fl n s = true) (hm : n ≤ m) : slotIn fl m s = true := by
  unfold slotIn at *
  rw [List.any_eq_true] at *
  obtain ⟨x, h1, h2⟩ := h
  exact ⟨x, by simp at *; omega, h2⟩
set_option maxRecDepth 100000 in
theorem ret_cl (x g s : Int) (b : Nat) (w : World) (hc : w.cell? ⟨b, 0, none⟩ = some (.int .i64 s)) :
    Calls Try.prog 20 #[.agg #[.int .i64 x, .int .i64 g], .pointer (some ⟨b, 0, none⟩)] w fun e w' => e = .returned (.bool (x == s)) ∧ Below w.heap.size w w' := by
  have hc' : (w.alloc (.cells #[.int .i64 x, .int .i64 g] 49)).cell? ⟨b, 0, none⟩ = some (.int .i64 s) := by
    rw [← hc]; exact ((Below.refl _ w).alloc (Nat.le_refl _) _).cell (World.block_lt_of_cell? w _ hc)
  have HB : Hid (Below w.heap.size w (w.alloc (.cells #[.int .i64 x, .int .i64 g] 49))) := (Below.refl _ w).alloc (Nat.le_refl _) _
  clear hc
  go_enter Try.func20, Try.ntmps20
  go_wp2
  go_ret
  exact ⟨rfl, HB.out⟩
set_option maxRecDepth 100000 in
set_option maxHeartbeats 1000000 in
theorem idx_ret (A : Option Addr) (m c b : Nat) (fl : List Int) (s : Int) (w : World) (hr : Rd2 w w.heap.size A m fl) (hm : m ≤ 9223372036854775807) (hc : w.cell? ⟨b, 0, none⟩ = some (.int .i64 s)) :
    Calls Try.prog 27 #[.slice A m c, .func (.func 20) #[] #[.pointer (some ⟨b, 0, none⟩)]] w fun e w' => (∃ i : Int, e = .returned (.int .i64 i) ∧ decide (0 ≤ i) = slotIn fl m s) ∧ Below w.heap.size w w' := by
  have HR := Lib.hid hr
  have HC := Lib.hid hc
  clear hr hc
  go_enter Try.func27, Try.ntmps27
  go_wp2
  go_loopw [8] (fun i wx => ∃ k : Nat, k ≤ m ∧ i = .int .i64 k ∧ Hid (slotIn fl k s = false) ∧ Below w.heap.size w wx) (fun i _ => m - (intOf i).toNat)
  case atStart => exact ⟨0, Nat.zero_le _, rfl, rfl, Below.refl _ _⟩
  case round =>
    obtain ⟨k, hk, rfl, hv, hb⟩ := hrel
    have HB := Lib.hid hb
    by_cases hlt : k < m
    · obtain ⟨b', o, rfl, _, hc1, hc2⟩ := (HR.out.below hb).at_ hlt
      have hs := slotIn_succ fl k s
      rw [hv.out, Bool.false_or] at hs
      obtain ⟨x, hx⟩ : ∃ x, ig fl (k * 2) = x := ⟨_, rfl⟩
      obtain ⟨y, hy⟩ : ∃ y, ig fl (k * 2 + 1) = y := ⟨_, rfl⟩
      rw [hx] at hc1 hs
      rw [hy] at hc2
      have hca := ret_cl x y s b wr ((hb.cell (World.block_lt_of_cell? w _ HC.out)).trans HC.out)
      have hm1 : m ≤ 9223372036854775807 := hm
      cases hq : (x == s) with
      | true =>
        rw [hq] at hca hs
        have HA : Hid (slotIn fl m s = true) := slotIn_mono hs (by omega)
        have HK := Lib.hid hca
        clear hca hs hq hx hy
        go_wp2_with fail
        refine HK.out.mono ?_
        rintro e w' ⟨rfl, hb'⟩
        have HB' := Lib.hid hb'
        clear hb'
        go_wp2_with fail
        go_ret
        exact ⟨⟨_, rfl, by rw [HA.out]; simp⟩, HB.out.trans (HB'.out.mono HB.out.size)⟩
      | false =>
        rw [hq] at hca hs
        have HS := Lib.hid hs
        have HK := Lib.hid hca
        clear hca hs hq hx hy
        go_wp2_with fail
        refine HK.out.mono ?_
        rintro e w' ⟨rfl, hb'⟩
        have HB' := Lib.hid hb'
        clear hb'
        go_wp2_with fail
        go_roundw
        case rel => exact ⟨k + 1, by omega, by go_num, HS, HB.out.trans (HB'.out.mono HB.out.size)⟩
        case measure => simp [intOf]; omega
    · obtain rfl : k = m := by omega
      go_wp2
      go_ret
      exact ⟨⟨_, rfl, by rw [hv.out]; rfl⟩, HB.out⟩
set_option maxRecDepth 100000 in
theorem has_ret (A : Option Addr) (m c b : Nat) (fl : List Int) (s : Int) (w : World) (hr : Rd2 w w.heap.size A m fl) (hm : m ≤ 9223372036854775807) (hc : w.cell? ⟨b, 0, none⟩ = some (.int .i64 s)) :
    Calls Try.prog 19 #[.slice A m c, .func (.func 20) #[] #[.pointer (some ⟨b, 0, none⟩)]] w fun e w' => e = .returned (.bool (slotIn fl m s)) ∧ Below w.heap.size w w' := by
  have h := Lib.hid (idx_ret A m c b fl s w hr hm hc)
  clear hr hc
  go_enter Try.func19, Try.ntmps19
  go_wp2_with fail
  refine h.out.mono ?_
  rintro e w' ⟨⟨i, rfl, hi⟩, hb⟩
  have HI := Lib.hid hi
  have HB := Lib.hid hb
  clear hi hb
  go_wp2_with fail
  go_ret
  exact ⟨ret_bool HI.out, HB.out⟩
set_option maxRecDepth 100000 in
theorem ep_retire_has (p : EpP) (s : EpS) (base : Nat) (x : Int) (w : World) (h : EpAt w base p s) (hk : s.k ≤ 9223372036854775807) (hx : slotIn s.fl s.k x = true) :
    Calls Try.prog 10 #[.pointer (some ⟨p.g, 0, none⟩), .int .i64 x] w fun e w' => e = .returned (.bool false) ∧ Below w.heap.size w w' := by
  have hb0 : Below w.heap.size w (w.alloc (.cells #[.int .i64 x] 3)) := (Below.refl _ w).alloc (Nat.le_refl _) _
  have h' := h.below hb0
  have c2 := h'.clk.cell 2
  have hc : (w.alloc (.cells #[.int .i64 x] 3)).cell? ⟨w.heap.size, 0, none⟩ = some (.int .i64 x) := (Blk.new w 3 #[.int .i64 x]).cell 0
  have HK := Lib.hid (has_ret p.B s.k p.d w.heap.size s.fl x _ (Rd2.of_own h'.lim) hk hc)
  rw [hx] at HK
  have HB := Lib.hid hb0
  clear h h' hb0 hc hx hk
  go_enter Try.func10, Try.ntmps10
  go_wp2_with (go_at_call 19; refine HK.out.mono ?_; rintro e w' ⟨rfl, hb'⟩)
  go_ret
  exact ⟨rfl, HB.out.trans (hb'.mono HB.out.size)⟩
theorem ep_retire_nil (x : Int) (w : World) :
    Calls Try.prog 10 #[.pointer none, .int .i64 x] w fun e w' => e = .returned (.bool false) ∧ Below w.heap.size w w' := by
  have HB : Hid (Below w.heap.size w (w.alloc (.cells #[.int .i64 x] 3))) := (Below.refl _ w).alloc (Nat.le_refl _) _
  go_enter Try.func10, Try.ntmps10
  go_wp2
  go_ret
  exact ⟨rfl, HB.out⟩
theorem EpAt.lim_ne {w : World} {base : Nat} {p : EpP} {s : EpS} (h : EpAt w base p s) : (Value.slice p.B s.k p.d).ownBlock ≠ some p.g ∧ (Value.slice p.B s.k p.d).ownBlock ≠ some p.gw := by
  rcases h.lim.2 with ⟨h1, _⟩ | ⟨g, cap, cur, h1, _, h3, _⟩
  · rw [h1]; exact ⟨by simp [Value.ownBlock], by simp [Value.ownBlock]⟩
  · rw [h1]
    refine ⟨fun e => ?_, fun e => ?_⟩
    · injection e with e
      simp only at e
      subst e
      have hc := h.clk
      unfold Blk at hc
      rw [hc] at h3
      injection h3 with h3
      injection h3 with _ h3
      exact absurd h3 (by decide)
    · injection e with e
      simp only at e
      subst e
      obtain ⟨rest, hw⟩ := h.wrk
      rw [hw] at h3
      injection h3 with h3
      injection h3 with _ h3
      exact absurd h3 (by decide)
theorem EpAt.retired {W w2 : World} {base : Nat} {p : EpP} {s : EpS} (h : EpAt W base p s) (x : Int) (g cap : Nat) (o : Obj)
    (ho : w2.ownsRow base 49 2 (.slice (some ⟨g, 0, none⟩) (s.k + 1) cap) (s.k + 1) (s.fl.map (.int .i64) ++ [.int .i64 x, .int .i64 s.ep]))
    (hg : (W.drew.alloc o).grownBy w2 (Value.slice p.B s.k p.d).ownBlock) (hat : (Value.slice p.B s.k p.d).ownBlock = some g ∨ g = (W.drew.alloc o).heap.size) :
    w2.cell? ⟨p.g, 2, none⟩ = some (.slice p.B s.k p.d) ∧ w2.frozen? ⟨p.g, 2, none⟩ = false ∧
    EpAt (w2.setCell ⟨p.g, 2, none⟩ (.slice (some ⟨g, 0, none⟩) (s.k + 1) cap)) base { p with B := some ⟨g, 0, none⟩, d := cap } { s with fl := s.fl ++ [x, (s.ep : Int)] } ∧
    Tch p.blk W (w2.setCell ⟨p.g, 2, none⟩ (.slice (some ⟨g, 0, none⟩) (s.k + 1) cap)) ∧
    ∀ k, ({ p with B := some ⟨g, 0, none⟩, d := cap } : EpP).blk k → p.blk k ∨ W.heap.size ≤ k := by
  have h1 : EpAt (W.drew.alloc o) base p s := (h.drewN 1).below ((Below.refl _ _).alloc (Nat.le_refl _) o)
  obtain ⟨n1, n2⟩ := h1.lim_ne
  have c2 : Blk w2 p.g _ _ := h1.clk.grown hg (fun e => n1 e.symm)
  have hl : s.fl.length = s.k * 2 := by simpa using h.lim.1
  have hk : ({ s with fl := s.fl ++ [x, (s.ep : Int)] } : EpS).k = s.k + 1 := by unfold EpS.k; simp
  refine ⟨c2.cell 2, c2.frozen 2, ⟨?_, ?_, ?_, h.gb, h.gwb, h.ne⟩, ?_, ?_⟩
  · rw [hk]
    exact c2.set_ 2 _
  · obtain ⟨rest, hw⟩ := h1.wrk
    refine ⟨rest, (Below.heap_setCell w2 ⟨p.g, 2, none⟩ _ p.gw (by show p.gw ≠ p.g; exact fun e => h.ne e.symm)).trans ((hg.block _ h1.wrk.lt (fun e => n2 e.symm)).trans hw)⟩
  · rw [hk]
    have ho' : w2.ownsRow base 49 2 (.slice (some ⟨g, 0, none⟩) (s.k + 1) cap) (s.k + 1) ((s.fl ++ [x, (s.ep : Int)]).map (.int .i64)) := by simpa using ho
    refine ho'.kept (row := some p.g) ⟨rfl, rfl, rfl, by simp [World.setCell], fun j _ hj => Below.heap_setCell w2 ⟨p.g, 2, none⟩ _ j (by rintro rfl; exact hj rfl)⟩ (Or.inr ?_)
    intro e
    injection e with e
    simp only at e
    subst e
    rcases ho.2 with ⟨q1, _⟩ | ⟨g', cap', cur, q1, _, q3, _⟩
    · cases q1
    · injection q1 with q1
      injection q1 with q1
      injection q1 with q1
      subst q1
      unfold Blk at c2
      rw [c2] at q3
      injection q3 with q3
      injection q3 with _ q3
      exact absurd q3 (by decide)
  · refine Tch.setCell ?_ (Or.inl rfl) _ _
    have hsz : W.heap.size ≤ (W.drew.alloc o).heap.size := ((Below.refl W.heap.size W.drew).alloc (Nat.le_refl _) o).size
    refine ⟨hg.os, hg.tape, hg.output, Nat.le_trans hsz hg.size, fun k hk' hn => ?_⟩
    refine (hg.block k (Nat.lt_of_lt_of_le hk' hsz) ?_).trans (Below.heap_alloc W.drew o k hk')
    intro e
    apply hn
    right; right
    cases hB : p.B with
    | none => rw [hB] at e; cases e
    | some a =>
      rcases h.lim.2 with ⟨q1, _⟩ | ⟨g', cap', cur, q1, _, _⟩
      · rw [hB] at q1; cases q1
      · rw [hB] at q1 e
        injection q1 with q1
        injection q1 with q1
        subst q1
        injection e with e
        simp only at e
        rw [e]
  · rintro k (hk' | hk' | hk')
    · exact Or.inl (Or.inl hk')
    · exact Or.inl (Or.inr (Or.inl hk'))
    · injection hk' with hk'
      injection hk' with hk' _ _
      subst hk'
      rcases hat with hat | hat
      · rcases h.lim.2 with ⟨q1, _⟩ | ⟨g', cap', cur, q1, _, _⟩
        · rw [q1] at hat; cases hat
        · rw [q1] at hat
          injection q1 with q1
          injection hat with hat
          simp only at hat
          subst hat
          exact Or.inl (Or.inr (Or.inr q1))
      · right
        rw [hat]
        exact ((Below.refl W.heap.size W.drew).alloc (Nat.le_refl _) o).size
theorem ref_info : ∃ i z, Try.prog.info? 49 = some i ∧ i.zero = some z ∧ i.size = 2 ∧ i.bytes = 16 ∧ z.cells.size = 2 := by
  have h : (Try.prog.info? 49).map (fun i => (i.zero.map Value.cells, i.size, i.bytes)) = some (some #[.int .i64 0, .int .i64 0], 2, 16) := by kernel_rfl
  obtain ⟨i, hi, hzz⟩ := Option.map_eq_some_iff.1 h
  simp only [Prod.mk.injEq] at hzz
  obtain ⟨hz, hs, hb⟩ := hzz
  obtain ⟨z, hz1, hz2⟩ := Option.map_eq_some_iff.1 hz
  exact ⟨i, z, hi, hz1, hs, hb, by rw [hz2]; rfl⟩
set_option maxRecDepth 100000 in
set_option maxHeartbeats 2000000 in
theorem ep_retire (p : EpP) (s : EpS) (base : Nat) (x : Int) (w : World) (h : EpAt w base p s) (hbase : base ≤ w.heap.size) (hk : s.k ≤ 1048576) (hx : slotIn s.fl s.k x = false) :
    Calls Try.prog 10 #[.pointer (some ⟨p.g, 0, none⟩), .int .i64 x] w fun e w' => e = .returned (.bool true) ∧ (∃ B d, EpAt w' base { p with B := B, d := d } { s with fl := s.fl ++ [x, (s.ep : Int)] } ∧ ∀ k, ({ p with B := B, d := d } : EpP).blk k → p.blk k ∨ w.heap.size ≤ k) ∧ Tch p.blk w w' := by
  have hb0 : Below w.heap.size w (w.alloc (.cells #[.int .i64 x] 3)) := (Below.refl _ w).alloc (Nat.le_refl _) _
  have h' := h.below hb0
  have c2 := h'.clk.cell 2
  have hc : (w.alloc (.cells #[.int .i64 x] 3)).cell? ⟨w.heap.size, 0, none⟩ = some (.int .i64 x) := (Blk.new w 3 #[.int .i64 x]).cell 0
  have HK := Lib.hid (has_ret p.B s.k p.d w.heap.size s.fl x _ (Rd2.of_own h'.lim) (by omega) hc)
  rw [hx] at HK
  have HB := Lib.hid hb0
  have HH := Lib.hid h'
  have HX := Lib.hid hc
  obtain ⟨ri, rz, ri1, rz1, ri2, ri3, rz2⟩ := ref_info
  clear h h' hb0 hc hx
  go_enter Try.func10, Try.ntmps10
  go_wp2_with (go_at_call 19; refine HK.out.mono ?_; rintro e w' ⟨rfl, hb'⟩)
  have HW : Hid (EpAt w' base p s) := HH.out.below hb'
  have HT : Hid (Below w.heap.size w w') := HB.out.trans (hb'.mono HB.out.size)
  have hcx : w'.cell? ⟨w.heap.size, 0, none⟩ = some (.int .i64 x) := (hb'.cell (World.block_lt_of_cell? _ _ HX.out)).trans HX.out
  have hbw : Hid (base ≤ w'.heap.size) := Nat.le_trans hbase HT.out.size
  obtain ⟨nb, hnb⟩ : ∃ nb, w.heap.size = nb := ⟨_, rfl⟩
  rw [hnb] at hcx
  rw [hnb]
  clear c2 HK HB HH HX hb' hbase hnb
  have c2 : w'.drew.cell? ⟨p.g, 2, none⟩ = some (.slice p.B s.k p.d) := HW.out.clk.cell 2
  have c0 : w'.drew.cell? ⟨p.g, 0, none⟩ = some (.int .i64 s.ep) := HW.out.clk.cell 0
  have cx : w'.drew.cell? ⟨nb, 0, none⟩ = some (.int .i64 x) := hcx
  have c2' : (w'.alloc (.cells #[.int .i64 x, .int .i64 s.ep] 49)).cell? ⟨p.g, 2, none⟩ = some (.slice p.B s.k p.d) := (HW.out.clk.alloc _).cell 2
  have hown : Hid ((w'.drew.alloc (.cells #[.int .i64 x, .int .i64 s.ep] 49)).ownsRow base 49 2 (.slice p.B s.k p.d) s.k (s.fl.map (.int .i64))) := ((HW.out.drewN 1).below ((Below.refl _ _).alloc (Nat.le_refl _) _)).lim
  have hnew : Hid (∀ j u, [Value.int .i64 x, .int .i64 s.ep][j]? = some u → (w'.drew.alloc (.cells #[.int .i64 x, .int .i64 s.ep] 49)).cell? (Addr.add ⟨w'.heap.size, 0, none⟩ j) = some u) := by
    intro j u hu
    rw [Addr.add_lit, Nat.zero_add]
    exact ((Blk.new w'.drew 49 #[.int .i64 x, .int .i64 s.ep]).cell j).trans (by simpa using hu)
  have hone : Hid (∀ u ∈ [Value.int .i64 x, .int .i64 s.ep], u.oneCell' = true) := by
    intro u hu
    simp at hu
    rcases hu with rfl | rfl <;> rfl
  have hbs : Hid (base ≤ (w'.drew.alloc (.cells #[.int .i64 x, .int .i64 s.ep] 49)).heap.size) := by
    have := hbw.out
    show _ ≤ _
    exact Nat.le_trans this ((Below.refl w'.heap.size w'.drew).alloc (Nat.le_refl _) _).size
  have hk1 : Hid (s.k + 1 ≤ maxLen) := by show _ ≤ _; unfold maxLen; omega
  have hk2 : Hid ((s.k + 1) * 16 ≤ 140737488355328) := by show _ ≤ _; omega
  clear hcx hk
  go_region_law (refine step_append_lies _ rfl (.tmp 19) (.tmp 26) 35 rfl base 49 ri rz 2 16 Try.underlying35 ri1 rz1 ri2 ri3 rz2 (by decide) (.slice p.B s.k p.d) s.k (s.fl.map (.int .i64)) (by simp [Act.eval]) hown.out ⟨w'.heap.size, 0, none⟩ 1 1 [.int .i64 x, .int .i64 s.ep] (by simp [Act.eval]) rfl hnew.out hone.out (by decide) hk1.out hk2.out hbs.out _ rfl ?_; intro g cap w2 ho hg hat _; obtain ⟨q1, q2, q3, q4, q5⟩ := HW.out.retired x g cap _ ho hg hat; replace q5 := Lib.hid q5; replace q3 := Lib.hid q3; replace q4 := Lib.hid q4; clear ho hg hat)
  all_goals (go_wp2; go_ret; exact ⟨rfl, ⟨_, _, q3.out, fun k hk => (q5.out k hk).imp_right (Nat.le_trans HT.out.size)⟩, (Tch.of_below HT.out : Tch p.blk w w').trans q4.out (fun _ hk => Or.inl hk)⟩)
end Go.Proofs.Ytgcoecibhonfnaa
