/- Walk of the law TopApart. Printed by genApE.py. -/
import Derived.Test.YtpcbfoddlpgdjaaApP
import Derived.Test.YtpcbfoddlpgdjaaPeB
namespace Go.Proofs.Ytpcbfoddlpgdjaa
open Go.RowKit
def flatE (l : List ItX) : List Value := (l.map fun d => d.cells.toList).flatten
theorem flatE_app (a b : List ItX) : flatE (a ++ b) = flatE a ++ flatE b := by unfold flatE; rw [List.map_append, List.flatten_append]
theorem own_itsE {w : World} {base : Nat} {A : Option Addr} {n c : Nat} {l : List ItX} (h : w.ownsRow base 45 3 (.slice A n c) n (flatE l)) (hl : l.length = n) (hv : ∀ d ∈ l, d.vec.Vec w w.heap.size) : Its w w.heap.size A n l := by
  refine ⟨?_, hv⟩
  cases A with
  | none =>
    rcases h.2 with ⟨q, _⟩ | ⟨g, cap, cur, q, _⟩
    · injection q with q1 q2 q3
      subst q2 q3
      have : l = [] := List.eq_nil_of_length_eq_zero hl
      subst this
      exact Rs.nil_
    · cases q
  | some a =>
    rcases h.2 with ⟨q, _⟩ | ⟨g, cap, cur, q, _⟩
    · cases q
    · injection q with q1 q2 q3
      rw [q1] at h ⊢
      exact (Rs.of_own0 (css := l.map fun d => d.cells.toList) h (fun c hc => by obtain ⟨x, _, rfl⟩ := List.mem_map.1 hc; rfl) (by simpa using hl)).1
theorem info_itemE : (Try.prog.info? 45).map (fun i => (i.zero, i.size, i.bytes)) = some (some (.agg itx0), 3, 40) := by kernel_rfl
theorem szSpE : ∀ w, (sizeOf (Try.prog.elem 25)).run Try.prog w = .ok 3 w := sizeSpE
/-- What Apart tells. -/
def ApR (q : IS) (its : List ItX) (n : Nat) (w : World) (e : Ending) (w' : World) : Prop := ∃ f A4 c4 k, e = .returned (.slice A4 k c4) ∧ SpAt w' w'.heap.size A4 k (apL f n) ∧ (partK f n).1.length = k ∧ k ≤ n ∧ (asL f n).Perm (asL (cdF (spI q its) its) n) ∧ Srt (leC ltC) f 0 n ∧ Below w.heap.size w w'
theorem ap_told (q : IS) (A3 : Option Addr) (n c3 : Nat) (A : Option Addr) (c : Nat) (its : List ItX) (w : World) (hs : SpAt w w.heap.size A3 n (spI q its)) (hI : Its w w.heap.size A n its) (hn : n ≤ 40) :
    Calls Try.prog 23 #[.slice A3 n c3, .slice A n c] w (ApR q its n w) :=
  (ch_apartS A3 n c3 (spI q its) A c its w hs hI hn).mono fun e w' hx => by
    obtain ⟨f, h1, h2, A4, c4, rfl, h3, h4⟩ := hx
    have hl : (apL f n).length = (partK f n).1.length := by simp [apL]
    have hle : (partK f n).1.length ≤ n := by
      have := part_len (asL f n) ([], [])
      rw [asL_len] at this
      have e : (partK f n).1.length + (partK f n).2.length = n := by unfold partK; simpa using this
      omega
    exact ⟨f, A4, c4, (partK f n).1.length, by rw [← hl], by rw [← hl]; exact (own_spAt h3 rfl).1, rfl, hle, h1, h2, h4⟩
/-- What Best tells. -/
def BeR (K : Nat) (w : World) (e : Ending) (w' : World) : Prop := ∃ bl A4 c4, e = .returned (.slice A4 K c4) ∧ SpAt w' w'.heap.size A4 K bl ∧ (∀ j, j < K → ahB (sg bl j) (sg bl 0) = false) ∧ Below w.heap.size w w'
theorem be_told (A3 : Option Addr) (n c3 : Nat) (L : List Sp) (A : Option Addr) (c : Nat) (its : List ItX) (most : Int) (K : Nat) (w : World) (hs : SpAt w w.heap.size A3 n L) (hI : Its w w.heap.size A n its) (hn : n ≤ 40) (hK : (K : Int) = min (max most 0) (n : Int)) :
    Calls Try.prog 24 #[.slice A3 n c3, .slice A n c, .int .i64 most] w (BeR K w) :=
  (ch_bestS A3 n c3 L A c its most K w hs hI hn hK).mono fun e w' hx => by
    obtain ⟨f, h1, h2, A4, c4, rfl, h3, h4⟩ := hx
    have hl : (beL f n K).length = K := best_len (by omega)
    exact ⟨beL f n K, A4, c4, by rw [hl], by rw [hl] at h3; exact (own_spAt h3 hl).1, fun j hj => best_law h2 (sg_mem (by rw [hl]; exact hj)), h4⟩
/-- What Apart tells of those that were apart. -/
theorem ap_again (q : IS) (its : List ItX) (f : Nat → Cd) (n k : Nat) (hn : its.length = n) (hk : (partK f n).1.length = k) (h1 : (asL f n).Perm (asL (cdF (spI q its) its) n)) (h2 : Srt (leC ltC) f 0 n) (A4 : Option Addr) (c4 : Nat) (A9 : Option Addr) (c9 : Nat) (w : World)
    (hs : SpAt w w.heap.size A4 k (apL f n)) (hI : Its w w.heap.size A9 k (agI its (apL f n))) (h40 : k ≤ 40) :
    Calls Try.prog 23 #[.slice A4 k c4, .slice A9 k c9] w fun e w' => ∃ A5 c5, e = .returned (.slice A5 k c5) ∧ SpAt w' w'.heap.size A5 k (apL f n) ∧ Below w.heap.size w w' :=
  (ch_apartS A4 k c4 (apL f n) A9 c9 (agI its (apL f n)) w hs hI h40).mono fun e w' hx => by
    obtain ⟨f2, k1, k2, A5, c5, rfl, k3, k4⟩ := hx
    obtain ⟨hv, _⟩ := ap_slot hn h1
    have e := again_law (g := cdF (apL f n) (agI its (apL f n))) h2 hv (by rw [← hk]; exact ag_cd hv) k1 k2
    have hl : (apL f n).length = k := by simp [apL, hk]
    rw [e] at k3 ⊢
    exact ⟨A5, c5, by rw [hl], by rw [hl] at k3; exact (own_spAt k3 hl).1, k4⟩
set_option maxRecDepth 100000 in
set_option maxHeartbeats 2000000 in
theorem apart_out (q : IS) (A : Option Addr) (n c : Nat) (most : Int) (w : World) (h : 40 < n) :
    Calls Try.prog 6 #[q.v, .slice A n c, .int .i64 most] w fun e w' => e = .returned (.bool true) ∧ Below w.heap.size w w' := by
  have t1 : decide ((40 : Int) < (n : Int)) = true := by simp; omega
  clear h
  unfold IS.v
  go_enter Try.func6, Try.ntmps6
  go_wp2_with (go_at_call 18; (with_reducible refine (begins5 w).mono ?_); rintro e w1 ⟨rfl, B1⟩; replace B1 := Lib.hid B1)
  go_ret
  exact ⟨rfl, B1.out⟩
set_option maxRecDepth 100000 in
set_option maxHeartbeats 16000000 in
theorem apart_walk (q : IS) (A : Option Addr) (n c : Nat) (its : List ItX) (most : Int) (w : World) (hq : q.Vec w w.heap.size) (hI : Its w w.heap.size A n its) (hn : n ≤ 40) :
    Calls Try.prog 6 #[q.v, .slice A n c, .int .i64 most] w fun e w' => e = .returned (.bool true) ∧ Below w.heap.size w w' := by
  have t1 : decide ((40 : Int) < (n : Int)) = false := by simp; omega
  have HQ := Lib.hid hq
  have HI := Lib.hid hI
  have HIL : Hid (its.length = n) := hI.len
  obtain ⟨K, hK⟩ : ∃ K : Nat, (K : Int) = min (max most 0) (n : Int) := ⟨(min (max most 0) (n : Int)).toNat, by omega⟩
  have HK := Lib.hid hK
  have hKn : K ≤ n := by omega
  have HSP := Lib.hid (fun (W : World) (hb : Below w.heap.size w W) => top_spots q A n c its W ((hq.below hb).more hb.size) (hI.on (Nat.le_refl _) hb) (by omega))
  unfold IS.v at HSP ⊢
  clear hq hI hK
  go_enter Try.func6, Try.ntmps6
  go_upto_region 5 with (go_at_call 18; (with_reducible refine (begins5 w).mono ?_); rintro e w1 ⟨rfl, B1⟩; replace B1 := Lib.hid B1)
  clear t1
  go_upto_region 6 with (go_at_call 8; (with_reducible refine (HSP.out w1 B1.out).mono ?_); rintro e w2 ⟨A3, c3, rfl, k1, k2⟩; have HS2 := Lib.hid (own_spAt k1 (by rw [spI_len, HIL.out])).1; have B2 : Hid (Below w.heap.size w w2) := B1.out.trans (k2.mono B1.out.size); clear k1 k2)
  clear HSP
  have HI2 := Lib.hid (HI.out.on (Nat.le_refl _) B2.out)
  have HAP := Lib.hid (ap_told q A3 n c3 A c its w2 HS2.out HI2.out hn)
  go_upto_region 7 with (go_at_call 23; (with_reducible refine HAP.out.mono ?_); rintro e w3 ⟨f, A4, c4, k, rfl, k1, k2, k3, k4, k5, k6⟩; have HA3 := Lib.hid k1; have HKL := Lib.hid k2; have hkn := k3; have HPE := Lib.hid k4; have HSR := Lib.hid k5; have B23 := Lib.hid k6; clear k1 k2 k3 k4 k5 k6)
  clear HAP
  have B3 : Hid (Below w.heap.size w w3) := B2.out.trans (B23.out.mono B2.out.size)
  have HSL := Lib.hid (ap_slot HIL.out HPE.out)
  have HAG := Lib.hid (fun A9 c9 W hs hi => ap_again q its f n k HIL.out HKL.out HPE.out HSR.out A4 c4 A9 c9 W hs hi (by omega))
  have HBE := Lib.hid (fun W hs hi => be_told A3 n c3 (spI q its) A c its most K W hs hi hn HK.out)
  obtain ⟨al, hal⟩ : ∃ al, apL f n = al := ⟨_, rfl⟩
  rw [hal] at HA3 HSL HAG
  have hall : al.length = k := HA3.out.len
  have HSM : Hid (∀ x ∈ al, ∃ m : Nat, m < n ∧ x.s = (m : Int)) := HSL.out.2
  have HS3 := Lib.hid ((HS2.out.more (Nat.le_refl _)).below B23.out |>.more B23.out.size)
  have hs3 := B3.out.size
  clear HSL HKL HPE HSR hal HI2 HS2 B2 B23 B1
  go_wp2_with fail
  go_loopw [9, 11, 28] (fun s9 _ s28 wr => ∃ (j : Nat) (A9 : Option Addr) (c9 : Nat), j ≤ k ∧ s28 = .int .i64 j ∧ s9 = .slice A9 j c9 ∧ Hid (wr.ownsRow w3.heap.size 45 3 (.slice A9 j c9) j (flatE ((agI its al).take j))) ∧ Hid (Below w3.heap.size w3 wr)) (fun _ _ s28 _ => k - (intOf s28).toNat)
  case atStart => exact ⟨0, none, 0, Nat.zero_le _, rfl, rfl, World.ownsRow_nil _ _ _ _, Below.refl _ _⟩
  case round =>
    obtain ⟨j, A9, c9, hj, rfl, rfl, HO, HB⟩ := hrel
    by_cases hlt : j < k
    · have hsp := HA3.out.below HB.out
      obtain ⟨b, o, _, rfl, hb, _⟩ := Rs.at_ hsp hlt
      have LX := hsp.load hlt
      obtain ⟨x, hx⟩ : ∃ x, sg al j = x := ⟨_, rfl⟩
      have hxa : al[j]? = some x := by rw [← hx]; exact sg_at (by rw [hall]; exact hlt)
      obtain ⟨m, hm, hxs⟩ := HSM.out x (List.mem_of_getElem? hxa)
      rw [hx] at LX
      obtain ⟨b2, o2, d, rfl, hb2, hd, hv, hr⟩ := (HI.out.below (B3.out.trans (HB.out.mono hs3))).at_ hm
      have HTK : Hid ((agI its al).take (j + 1) = (agI its al).take j ++ [d]) := take_stepX (by rw [agI_at hxa, hxs, Int.toNat_natCast, List.getD_eq_getElem?_getD, hd]; rfl)
      have kx := Blk.new wr 35 (spC x)
      have b3 := bel_box wr (.cells (spC x) 35)
      obtain ⟨xb, hxb⟩ : ∃ xb, wr.heap.size = xb := ⟨_, rfl⟩
      obtain ⟨W3, hW3⟩ : ∃ W3, wr.alloc (.cells (spC x) 35) = W3 := ⟨_, rfl⟩
      rw [hW3] at kx b3
      rw [hxb] at kx
      have ks : W3.cell? ⟨xb, 2, none⟩ = some (.int .i64 (m : Nat)) := by
        have h := kx.cell 2
        rw [h, ← hxs]; rfl
      have HB3 : Hid (Below w3.heap.size w3 W3) := HB.out.trans (b3.mono HB.out.size)
      have HO3 := Lib.hid (ownsRow_apS (w' := W3) HO.out fun g hg => b3.block g (World.ownsRow.lt HO.out g hg).2)
      have hb3s := HB3.out.size
      have LI := itx_load ((show W3.rangeAt b2 (o2 + m * 3) d.cells.toList from fun t u hu => (b3.cell (p := ⟨b2, o2 + m * 3 + t, none⟩) (by show b2 < _; have := HB.out.size; omega)).trans (hr t u hu)))
      unfold spV at LX
      unfold spC at hW3
      unfold ItX.cells IS.v at LI
      have hm2 : decide ((n : Int) ≤ (m : Int)) = false := by simp; omega
      have HXB := Lib.hid hxb
      have HW3 := Lib.hid hW3
      clear hsp hx hxa hd hv hr hb hb2 kx b3 hxb hW3 HO HB hxs
      go_upto_region 11 with (first | refine wpList_loadE LX _ rfl rfl rfl ?_)
      clear LX
      rw [HW3.out]
      (try rw [HXB.out])
      clear HW3
      go_wp2_with (first
        | refine wpList_loadE LI _ rfl rfl rfl ?_
        | (at_builtin; refine wpList_push1 rfl (.tmp 42) (.tmp 48) 23 45 3 40 _ rfl Try.underlying23 info_itemE rfl (by decide) W3 w3.heap.size (.slice A9 j c9) j (flatE ((agI its al).take j)) d.cells rfl HO3.out rfl rfl (fun u hu => by rcases (by simpa [ItX.cells, IS.v] using hu : u = _ ∨ u = _ ∨ u = _) with rfl | rfl | rfl <;> rfl) (by omega) (by decide) hb3s ?_; intro g2 c5 W7 ho hgr hbb hat; have HO7 : Hid (W7.ownsRow w3.heap.size 45 3 (.slice (some ⟨g2, 0, none⟩) (j + 1) c5) (j + 1) (flatE ((agI its al).take (j + 1)))) := (by show World.ownsRow _ _ _ _ _ _ _; rw [HTK.out, flatE_app]; simpa [flatE] using ho); have HB7 : Hid (Below w3.heap.size w3 W7) := HB3.out.trans hbb; clear ho hgr hbb hat))
      clear LI ks hm2
      go_roundw
      case rel => exact ⟨j + 1, some ⟨g2, 0, none⟩, c5, by omega, by go_num, rfl, HO7, HB7⟩
      case measure => simp [intOf]; omega
    · obtain rfl : j = k := by omega
      have HB4 : Hid (Below w.heap.size w wr) := B3.out.trans (HB.out.mono hs3)
      have HIA : Hid (Its wr wr.heap.size A9 j (agI its al)) := by
        have h1 := HO.out
        rw [List.take_of_length_le (by rw [agI_len, hall]; exact Nat.le_refl _)] at h1
        refine own_itsE h1 (by rw [agI_len, hall]) fun d hd => ?_
        obtain ⟨x, hx, rfl⟩ := List.mem_map.1 hd
        obtain ⟨m, hm, hxs⟩ := HSM.out x hx
        rw [hxs, Int.toNat_natCast]
        obtain ⟨_, _, d, _, _, hd, hv, _⟩ := (HI.out.on (Nat.le_refl _) HB4.out).at_ hm
        rw [List.getD_eq_getElem?_getD, hd]
        exact hv
      have HA4 : Hid (SpAt wr wr.heap.size A4 j al) := (HA3.out.below HB.out).more HB.out.size
      have HBC := Lib.hid (HBE.out wr ((HS3.out.below HB.out).more HB.out.size) (HI.out.on (Nat.le_refl _) HB4.out))
      obtain ⟨w4, rfl⟩ : ∃ w4 : World, w4 = wr := ⟨_, rfl⟩
      clear HO HSM HBE HA3 HS3 HB
      go_upto_region 16 with (go_at_call 24; (with_reducible refine HBC.out.mono ?_); rintro e w5 ⟨bl, A5, c5, rfl, k1, k2, k3⟩; have HBL := Lib.hid k1; have HAH := Lib.hid k2; have B45 := Lib.hid k3; clear k1 k2 k3)
      clear HBC
      have B5 : Hid (Below w.heap.size w w5) := HB4.out.trans (B45.out.mono HB4.out.size)
      have HIA5 := Lib.hid (HIA.out.on (Nat.le_refl _) B45.out)
      have HA5 : Hid (SpAt w5 w5.heap.size A4 j al) := (HA4.out.below B45.out).more B45.out.size
      have hs5 := B5.out.size
      clear HIA HA4 HB4 B45 B3
      go_wp2_with fail
      go_loopw [14, 57] (fun _ s57 wr => ∃ i : Nat, i ≤ K ∧ s57 = .int .i64 i ∧ Hid (Below w5.heap.size w5 wr)) (fun _ s57 _ => K - (intOf s57).toNat)
      case atStart => exact ⟨0, Nat.zero_le _, rfl, Below.refl _ _⟩
      case round =>
        obtain ⟨i, hi, rfl, HB⟩ := hrel
        by_cases hlt2 : i < K
        · have hsp := HBL.out.below HB.out
          obtain ⟨b, o, _, rfl, hb, _⟩ := Rs.at_ hsp hlt2
          have LX := hsp.load hlt2
          have hah := HAH.out i hlt2
          obtain ⟨x, hx⟩ : ∃ x, sg bl i = x := ⟨_, rfl⟩
          rw [hx] at LX hah
          have kx := Blk.new wr 35 (spC x)
          have b3 := bel_box wr (.cells (spC x) 35)
          obtain ⟨xb, hxb⟩ : ∃ xb, wr.heap.size = xb := ⟨_, rfl⟩
          obtain ⟨W3, hW3⟩ : ∃ W3, wr.alloc (.cells (spC x) 35) = W3 := ⟨_, rfl⟩
          rw [hW3] at kx b3
          rw [hxb] at kx
          have HB3 : Hid (Below w5.heap.size w5 W3) := HB.out.trans (b3.mono HB.out.size)
          have hb3s := HB3.out.size
          have KX := Lib.hid kx
          have h0K : 0 < K := by omega
          obtain ⟨x0, hx0⟩ : ∃ x0, sg bl 0 = x0 := ⟨_, rfl⟩
          rw [hx0] at hah
          have HL0 : Hid (∀ W : World, Below W3.heap.size W3 W → (Instr.loadAt 35 (.pointer (some ⟨b, o + 0 * 3, none⟩))).run Try.prog W = .ok (spV x0) W) := fun W hW => by
            have := (HBL.out.below (HB3.out.trans (hW.mono hb3s))).load h0K
            rw [hx0] at this
            exact this
          have HLX : Hid (∀ W : World, Below W3.heap.size W3 W → (Instr.loadAt 35 (.pointer (some ⟨xb, 0, none⟩))).run Try.prog W = .ok (spV x) W) := fun W hW => spB_load (KX.out.below hW KX.out.lt)
          have HRS : Hid (∀ W : World, Calls Try.prog 21 #[spV x, spV x0] W fun e w' => e = .returned (.bool false) ∧ Gw W w') := fun W => by
            have := rank_spot x x0 W
            rw [hah] at this
            exact this
          unfold spV at LX
          unfold spC at hW3
          have HXB := Lib.hid hxb
          have HW3 := Lib.hid hW3
          clear hsp hx hb kx b3 hxb hW3 HB hah hx0
          go_upto_region 19 with (first | refine wpList_loadE LX _ rfl rfl rfl ?_)
          clear LX
          rw [HW3.out]
          (try rw [HXB.out])
          clear HW3
          refine wp_region_held_drew (S := fun W => Below W3.heap.size W3 W) (by kernel_rfl) (below_drewN (Below.refl _ W3) 1) (fun hH => ?_)
          obtain ⟨W6, hW6⟩ : ∃ q, W3.drew = q := ⟨_, rfl⟩
          rw [hW6] at hH ⊢
          clear hW6
          refine wpAnyH_take (i := 0) (v := spV x) rfl (by kernel_rfl) (by kernel_rfl) (by kernel_rfl) (fun _ _ _ h => h) (yieldsIf_loadP (by rfl) _ rfl rfl (fun _ q => HLX.out _ q)) hH ?_
          (try simp only [List.getElem_toArray, List.getElem_cons_zero, Act.put, List.setIfInBounds_toArray, List.set_cons_zero, List.set_cons_succ])
          refine wpAnyH_take (i := 1) (v := .slice (some ⟨b, o, none⟩) K c5) rfl (by kernel_rfl) (by kernel_rfl) (by kernel_rfl) (fun _ _ _ h => h) (.inl ⟨by rfl, fun _ _ => by kernel_rfl⟩) hH ?_
          (try simp only [List.getElem_toArray, List.getElem_cons_zero, List.getElem_cons_succ, Act.put, List.setIfInBounds_toArray, List.set_cons_zero, List.set_cons_succ])
          refine wpAnyH_take (i := 2) (v := .pointer (some ⟨b, o + 0 * 3, none⟩)) rfl (by kernel_rfl) (by kernel_rfl) (by kernel_rfl) (fun _ _ _ h => h) (yieldsIf_indexC (k := 0) Try.underlying25 szSpE (by rfl) _ _ rfl rfl rfl h0K) hH ?_
          (try simp only [List.getElem_toArray, List.getElem_cons_zero, List.getElem_cons_succ, Act.put, List.setIfInBounds_toArray, List.set_cons_zero, List.set_cons_succ])
          refine wpAnyH_take (i := 3) (v := spV x0) rfl (by kernel_rfl) (by kernel_rfl) (by kernel_rfl) (fun _ _ _ h => h) (yieldsIf_loadP (by rfl) _ rfl rfl (fun _ q => HL0.out _ q)) hH ?_
          (try simp only [List.getElem_toArray, List.getElem_cons_zero, List.getElem_cons_succ, Act.put, List.setIfInBounds_toArray, List.set_cons_zero, List.set_cons_succ])
          refine wpAnyH_call 4 21 #[spV x, spV x0] _ (by kernel_rfl) (by rfl) (by kernel_rfl) (by kernel_rfl) (HRS.out _) ?_
          rintro e Z1 ⟨rfl, hg⟩
          have h1 : Below W3.heap.size W3 Z1 := hH.trans (hg.below.mono hH.size)
          refine ⟨_, rfl, h1, ?_⟩
          (try simp only [List.getElem_toArray, List.getElem_cons_zero, List.getElem_cons_succ, Act.put, List.setIfInBounds_toArray, List.set_cons_zero, List.set_cons_succ])
          refine wpAnyH_done (by kernel_rfl) ?_ _
          have HB6 : Hid (Below w5.heap.size w5 Z1) := HB3.out.trans (h1.mono hb3s)
          clear hH h1 hg
          go_wp2_with fail
          go_roundw
          case rel => exact ⟨i + 1, by omega, by go_num, HB6⟩
          case measure => simp [intOf]; omega
        · obtain rfl : i = K := by omega
          have HB6 := HB
          have hb6 := HB6.out.size
          have HA6 : Hid (SpAt wr wr.heap.size A4 j al) := (HA5.out.below HB6.out).more hb6
          have HC6 := Lib.hid (HAG.out A9 c9 wr HA6.out (HIA5.out.on (Nat.le_refl _) HB6.out))
          have HB0 : Hid (Below w.heap.size w wr) := B5.out.trans (HB6.out.mono hs5)
          have HAL := Lib.hid (fun A' c' (W : World) (h1 : SpAt W W.heap.size A' j al) (hb : Below wr.heap.size wr W) => top_alike A' A4 j c' c4 al W h1 ((HA6.out.below hb).more hb.size) (by omega))
          have v1 : ((i : Int) == min (max most 0) (n : Int)) = true := by rw [beq_iff_eq]; exact HK.out
          clear HB HA5 HIA5 HAG HBL HAH B5
          go_wp2_with (first
            | (go_at_call 23; (with_reducible refine HC6.out.mono ?_); rintro e w7 ⟨A7, c7, rfl, k1, k2⟩; have HS7 := Lib.hid k1; have B7 := Lib.hid k2; clear k1 k2)
            | (go_at_call 15; (with_reducible refine (HAL.out A7 c7 w7 HS7.out B7.out).mono ?_); rintro e w8 ⟨rfl, k1⟩; have B8 : Hid (Below w.heap.size w w8) := (HB0.out.trans (B7.out.mono HB0.out.size)).trans (k1.mono (Nat.le_trans HB0.out.size B7.out.size)); clear k1))
          go_ret
          exact ⟨rfl, B8.out⟩
theorem apart_any (q : IS) (A : Option Addr) (n c : Nat) (its : List ItX) (most : Int) (w : World) (hq : q.Vec w w.heap.size) (hI : Its w w.heap.size A n its) :
    Calls Try.prog 6 #[q.v, .slice A n c, .int .i64 most] w fun e w' => e = .returned (.bool true) ∧ Below w.heap.size w w' := by
  by_cases h : 40 < n
  · exact apart_out q A n c most w h
  · exact apart_walk q A n c its most w hq hI (by omega)
end Go.Proofs.Ytpcbfoddlpgdjaa
