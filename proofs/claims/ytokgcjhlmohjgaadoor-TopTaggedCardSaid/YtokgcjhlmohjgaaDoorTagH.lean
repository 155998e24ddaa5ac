/- A text read by the program: the loops. -/
import Derived.Test.YtokgcjhlmohjgaaDoorTagG
namespace Go.Proofs.YtokgcjhlmohjgaaDoor
open Go.RowKit Go.Shelf
theorem prs_out {w W : World} {N K : Nat} {A : Option Addr} {n c : Nat} {al : List Int} {k : Nat} (h : PIn w N K A n c al k W) (m : Nat) (y : Int) :
    PB ((W.setCell ⟨N + 1, 0, none⟩ (.int .u64 m)).setCell ⟨N + 2, 0, none⟩ (.int .i64 y)) N A n c m y ∧ Below N w ((W.setCell ⟨N + 1, 0, none⟩ (.int .u64 m)).setCell ⟨N + 2, 0, none⟩ (.int .i64 y)) :=
  ⟨h.b.put m y, (h.bel.setCell (by simp) _).setCell (by simp) _⟩
theorem sl_sorted (A : Option Addr) (n c : Nat) (zs : List Int) (w : World) (L : Nat) (hr : Rd w L A n (zs.map (.int .i64))) (hn : n < 4611686018427387904) :
    Calls Tryd.prog 25 #[.slice A n c] w fun e w' => e = .returned (.bool (srtB zs)) ∧ ∃ q, w' = w.drewN q := by
  have hl : zs.length = n := by simpa using hr.1
  by_cases h0 : n = 0
  · subst h0
    obtain rfl := List.eq_nil_of_length_eq_zero hl
    refine (AnyO.slices_IsSorted_int_none laysSorted A c w).mono ?_
    rintro e w' ⟨rfl, rfl⟩
    exact ⟨rfl, 0, rfl⟩
  · obtain ⟨b, o, rfl, hb, hcell⟩ := hr.2 (by omega)
    have h := AnyO.slices_IsSorted_int laysSorted b o c zs.toArray w (fun i hi => by
      have hi' : i < zs.length := by simpa using hi
      exact hcell i (.int .i64 zs.toArray[i]!) (by rw [List.getElem?_map, List.getElem?_eq_getElem hi']; simp [hi'])) (by simp; omega)
    have hs : zs.toArray.size = n := by simp [hl]
    rw [hs] at h
    refine h.mono ?_
    rintro e w' ⟨rfl, hq⟩
    refine ⟨?_, hq⟩
    congr 2
    rw [Bool.eq_iff_iff, Lib.downOK_iff, srt_iff]
    constructor
    · intro h k hk
      have := h k (by omega)
      have h1 : k + 1 < zs.length := hk
      have h2 : k < zs.length := by omega
      simp [h1, h2] at this
      simpa [ig, List.getD_eq_getElem?_getD, h1, h2] using this
    · intro h k hk
      have := h k (by omega)
      have h1 : k + 1 < zs.length := by omega
      have h2 : k < zs.length := by omega
      simp [ig, List.getD_eq_getElem?_getD, h1, h2] at this
      simpa [h1, h2] using this
theorem PIn.drewN {w W : World} {N K : Nat} {A : Option Addr} {n c : Nat} {al : List Int} {k : Nat} (h : PIn w N K A n c al k W) (q : Nat) : PIn w N K A n c al k (W.drewN q) := by
  obtain ⟨B, d, h1, h2⟩ := h.row
  exact ⟨⟨h.b.t, h.b.m, h.b.y⟩, ⟨B, d, h1, h2⟩, below_drewN h.bel q, h.lo, h.sz⟩
theorem parse_out {w W : World} {N D : Nat} {A : Option Addr} {n c m : Nat} {y : Int} {ts : List (List Int)} {s : List Int} {tmps : Array Value} (hN : w.heap.size = N) (hP : PB W N A n c m y) (hB : Below N w W) (hK : W.heap[D]? = some (.deferred (some []))) (hD : N ≤ D)
    (e1 : prsM ts s = m) (e2 : prsW ts s = y) (p1 : tmps.getD 4 undef = .pointer (some ⟨N + 1, 0, none⟩)) (p2 : tmps.getD 5 undef = .pointer (some ⟨N + 2, 0, none⟩)) :
    bodyPostM Fence.wide 3 Tryd.prog Tryd.f11 (fun e w' => e = .returned (.tuple #[.int .u64 (prsM ts s), .int .i64 (prsW ts s)]) ∧ Below w.heap.size w w') .ret { tmps := tmps, defers := [{ target := .collected D, args := #[] }] } W := by
  refine leave_cells (a1 := ⟨N + 1, 0, none⟩) (a2 := ⟨N + 2, 0, none⟩) Tryd.results11 hK p1 p2 Tryd.isAgg23 Tryd.isAgg25 hP.m.cell hP.y.cell ?_
  rw [e1, e2, hN]
  exact ⟨rfl, hB.trans ((Below.refl N W).grown (grownBy_putObj' W D _) (by have := hB.size; omega) (fun k e => by cases e; exact hD))⟩
attribute [local go_sem] Oper.semAt_some
set_option maxRecDepth 100000 in
set_option maxHeartbeats 4000000 in
theorem tag_parse_main (A : Option Addr) (n c : Nat) (ts : List (List Int)) (hall : ∀ t ∈ ts, Bytes t) (hsz : ∀ t ∈ ts, t.length ≤ 9223372036854775807) (s : List Int) (hs : Bytes s) (hsl : s.length ≤ 4194304) (w : World) (hr : Rd w w.heap.size A n (ts.map fun t => .string (strOfNums t))) (hz : chkE ts = 0) (hne : s ≠ []) :
    Calls Tryd.prog 11 #[.slice A n c, .string (strOfNums s)] w fun e w' => e = .returned (.tuple #[.int .u64 (prsM ts s), .int .i64 (prsW ts s)]) ∧ Below w.heap.size w w' := by
  have hml : ts.length = n := by simpa using hr.1
  have hn64 : n ≤ 64 := by have := (chk_zero hz).1; omega
  have hp : partsE s = splitL s := if_neg hne
  have hbp := bytes_parts hs
  have hat := fun k hk => ats_at (ts := ts) (s := s) (k := k) hk
  have hal := ats_len ts s
  have hlp := len_parts s
  rw [hp] at hbp hat hal hlp
  have HR := Lib.hid hr
  have HA := Lib.hid hall
  have HS := Lib.hid hs
  have HZ := Lib.hid hz
  have HBP := Lib.hid hbp
  have HAT := Lib.hid hat
  have HAL := Lib.hid hal
  have HLP := Lib.hid hlp
  have hB3 : Below w.heap.size w (((w.alloc (.cells #[.slice A n c] 22)).alloc (.cells #[.int .u64 0] 23)).alloc (.cells #[.int .i64 0] 25)) := (((Below.refl _ w).alloc (Nat.le_refl _) _).alloc (by simp) _).alloc (by simp; omega) _
  have HB3 := Lib.hid hB3
  have hC := tag_check A n c ts hall hsz _ ((hr.below hB3).more hB3.size)
  rw [hz] at hC
  have HC := Lib.hid hC
  have hes : ((strOfNums s).toList == ([] : List UInt8)) = false := by rw [str_ne s hs]; exact beq_false_of_ne hne
  have hie : (strOfNums s).toList.isEmpty = false := by cases h : (strOfNums s).toList with
    | nil => rw [h] at hes; cases hes
    | cons _ _ => rfl
  clear hr hall hsz hs hz hbp hat hal hlp hB3 hC hne hp
  have b1 := Boxed.new w 22 (.slice A n c)
  have b2 := Boxed.new (w.alloc (.cells #[.slice A n c] 22)) 23 (.int .u64 0)
  have b3 := Boxed.new ((w.alloc (.cells #[.slice A n c] 22)).alloc (.cells #[.int .u64 0] 23)) 25 (.int .i64 0)
  rw [World.size_alloc] at b2 b3
  rw [World.size_alloc] at b3
  have HPB : Hid (PB (((w.alloc (.cells #[.slice A n c] 22)).alloc (.cells #[.int .u64 0] 23)).alloc (.cells #[.int .i64 0] 25)) w.heap.size A n c 0 0) := ⟨(b1.alloc _).alloc _, b2.alloc _, b3⟩
  clear b1 b2 b3
  refine (callsIn_wide (n := 3)).1 (callsIn_of_wp_marks Tryd.func11 rfl trivial (wpIn_wide.2 ?_) rfl)
  simp only [Tryd.ntmps11, List.size_toArray, List.length_cons, List.length_nil, Nat.reduceAdd, Nat.reduceSub, Array.replicate_succ, Array.replicate_zero, List.push_toArray, List.append_toArray, List.nil_append, List.cons_append]
  go_wp2_with fail
  refine HC.out.mono ?_
  rintro e w1 ⟨rfl, hb1⟩
  have hB1 : Below w.heap.size w w1 := HB3.out.trans (hb1.mono (by simp; omega))
  have hp1 := HPB.out.below hb1 (by simp)
  have hN1 : w.heap.size + 3 ≤ w1.heap.size := by have := hb1.size; simp at this; omega
  have HB1 := Lib.hid hB1
  have HP1 := Lib.hid hp1
  clear hb1 hB1 hp1
  have hSp := Lib.hid (split_seq s (w1.alloc (.cells #[.slice none 0 0] 36)))
  go_wp2_with fail
  refine hSp.out.mono ?_
  rintro e w2 ⟨rfl, hb2, hsz2, hcut⟩
  obtain ⟨N, hN⟩ : ∃ N, w.heap.size = N := ⟨_, rfl⟩
  obtain ⟨K, hK⟩ : ∃ K, w1.heap.size = K := ⟨_, rfl⟩
  simp only [World.size_alloc, hN, hK] at hb2 hsz2 hcut HP1 HB1 hN1 HR HB3 ⊢
  have hbA : Below N w1 (w1.alloc (.cells #[.slice none 0 0] 36)) := (Below.refl N w1).alloc (by omega) _
  have hbW : Below N w w2 := (HB1.out.trans hbA).trans (hb2.mono (by omega))
  have hpb : PB w2 N A n c 0 0 := HP1.out.keep fun i h1 h2 => (hb2.block i (by omega)).trans (Below.heap_alloc w1 _ i (by omega))
  have hkb : Boxed w2 K 36 (.slice none 0 0) := (hb2.block K (by omega)).trans (by have := Boxed.new w1 36 (.slice none 0 0); rw [hK] at this; exact this)
  have hI0 : PIn w N K A n c (atsE ts s) 0 w2 := ⟨hpb, ⟨none, 0, hkb, World.ownsRow_nil _ _ _ _⟩, hbW, fun q hq => absurd hq (by omega), by omega⟩
  have HI0 := Lib.hid hI0
  have HCUT := Lib.hid hcut
  have HW2 : Hid (w2.heap.size = K + 4) := by show _ = _; omega
  clear hbA hbW hpb hkb hI0 hcut hb2 hsz2 hSp HC HP1 HB1
  go_wp2_with fail
  refine range_gives (gf := 43) (lb := #[.pointer (some ⟨K + 1 + 1, 0, none⟩), .pointer (some ⟨K + 1, 0, none⟩), .pointer (some ⟨K + 1 + 2, 0, none⟩)]) rfl (enters_of Tryd.func43 (by kernel_rfl) rfl) (b0 := K + 1) (by have := HW2.out; omega)
    (split_gives s HS.out hsl (K + 1) w2 HCUT.out) (fun h k => Kp3.trans h k) (fun W l o hl => by have := HW2.out; exact ⟨World.putObj_heap_other (by omega), World.putObj_heap_other (by omega), World.putObj_heap_other (by omega)⟩)
    (fun k W => PIn w N K A n c (atsE ts s) k W) (fun W => PB W N A n c 0 3 ∧ Below N w W ∧ prsW ts s = 3 ∧ prsM ts s = 0)
    (fun k W v h => h.set_ hN1 v) (fun k W o h => h.alloc hN1 o) (fun k W l o o' hl ho hc h => h.putObj o' hN1 (by have := HW2.out; omega) ho hc)
    (fun W l o o' hl ho hc h => ⟨h.1.keep fun i _ _ => World.putObj_heap_other (by have := HW2.out; omega), h.2.1.trans ((Below.refl N W).grown (grownBy_putObj' W l o') (by have := h.2.1.size; omega) (fun k e => by cases e; have := HW2.out; omega)), h.2.2⟩)
    HI0.out ?aa ?assign ?body ?done ?stop
  case assign =>
    intro l k W Kk hKk
    gi_wp2
    exact hKk
  case body =>
    rintro l k W hk hI
    have HI := Lib.hid hI
    obtain ⟨hpb, ⟨B, d, hbx, hown⟩, hbel, hlo, hsz⟩ := hI
    have g0 := hpb.t.cell
    have g1 := hpb.m.cell
    have g2 := hpb.y.cell
    have g3 := hpb.m.frozen
    have g4 := hpb.y.frozen
    have g5 := hbx.cell
    have g6 := hbx.frozen
    have hF := sl_index A n c ts HA.out (tg (splitL s) k) (HBP.out _ (tg_mem hk)) W N (HR.out.below hbel) (by omega)
    have hka : k < (atsE ts s).length := by have := HAL.out; omega
    have hat := HAT.out k hk
    have hbd := fi_bd ts (tg (splitL s) k)
    have hk40 : k ≤ 4194305 := by have := HLP.out; omega
    obtain ⟨y, hy⟩ : ∃ y, fiE ts (tg (splitL s) k) = y := ⟨_, rfl⟩
    rw [hy] at hF hat hbd
    by_cases hneg : y < 0
    · have HE := Lib.hid (prs_miss HZ.out hka (by rw [hat]; exact hneg))
      clear hat hbd hy hka hk hpb hbx hown hlo
      gi_wp2_with (refine ⟨trivial, ?_⟩; gi_at_call 23; refine (CallsIn.inRound l (callsIn_wide.2 hF)).mono ?_; rintro e w2 ⟨rfl, rfl⟩)
      have ho := prs_out HI.out 0 3
      exact ⟨((KeepsOthers.setCell _ _ _).trans (KeepsOthers.setCell _ _ _)).from _, ho.1, ho.2, HE.out.1, HE.out.2⟩
    · have htk : Hid (((atsE ts s).take (k + 1)).map (Value.int .i64) = ((atsE ts s).take k ++ [y]).map (Value.int .i64)) := by show _ = _; rw [take_step hka, hat]
      have hlo2 : Hid (∀ q, q < k + 1 → 0 ≤ ig (atsE ts s) q) := fun q hq => by
        by_cases e : q = k
        · rw [e, hat]; omega
        · exact hlo q (by omega)
      have HO := Lib.hid hown
      clear hat hbd hy hka hk hpb hlo
      gi_wp2_with (first | (refine ⟨trivial, ?_⟩; gi_at_call 23; refine (CallsIn.inRound l (callsIn_wide.2 hF)).mono ?_; rintro e w2 ⟨rfl, rfl⟩) | (gi_at_builtin; refine wpListIn_push rfl (.tmp 30) (.tmp 32) _ rfl (K + 4) 3 .i64 8 (by decide) Tryd.underlying36 info_int W B k d _ _ rfl HO.out rfl (by omega) (by omega) ?_; intro g' c' w' hown2 hb2 hko; have hkx : Boxed w' K 36 (.slice B k d) := (hb2.block K (by omega)).trans hbx; have g7 := hkx.cell; have g8 := hkx.frozen))
      have hI := HI.out
      rw [← htk.out] at hown2
      refine ⟨(hko.trans (KeepsOthers.setCell _ _ _)).from _, ⟨?_, ?_, ?_⟩, ?_⟩
      · exact (Below.heap_setCell _ _ _ (K + 1) (by show K + 1 ≠ K; omega)).trans (hb2.block (K + 1) (by omega))
      · exact (Below.heap_setCell _ _ _ (K + 1 + 1) (by show K + 1 + 1 ≠ K; omega)).trans (hb2.block (K + 1 + 1) (by omega))
      · exact (Below.heap_setCell _ _ _ (K + 1 + 2) (by show K + 1 + 2 ≠ K; omega)).trans (hb2.block (K + 1 + 2) (by omega))
      · exact ⟨hI.b.keep fun i h1 h2 => (Below.heap_setCell _ _ _ i (by show i ≠ K; omega)).trans (hb2.block i (by omega)), ⟨_, _, hkx.set _, own_far hown2 (grownBy_setCell' _ K _) (by omega)⟩,
          (hI.bel.trans (hb2.mono (by omega))).setCell (by show N ≤ K; omega) _, hlo2.out, Nat.le_trans hI.sz (Nat.le_trans hb2.size (KeepsOthers.setCell _ _ _).size)⟩
  case done =>
    rintro D W hD hI hK
    obtain ⟨L, hL⟩ : ∃ L, (splitL s).length = L := ⟨_, rfl⟩
    have hal := HAL.out
    rw [hL] at hI hal
    have HI := Lib.hid hI
    have htk : (atsE ts s).take L = atsE ts s := List.take_of_length_le (by omega)
    obtain ⟨hpb, ⟨B, d, hbx, hown⟩, hbel, hlo, hsz⟩ := hI
    rw [htk] at hown
    have HLO : Hid (∀ k, k < (atsE ts s).length → 0 ≤ ig (atsE ts s) k) := fun k hk => hlo k (by omega)
    have HPl : Hid (Pl (atsE ts s)) := fun i hi => by
      obtain ⟨k, hk, rfl⟩ := List.getElem_of_mem hi
      have e : (atsE ts s)[k] = ig (atsE ts s) k := by simp [ig, List.getD_eq_getElem?_getD, hk]
      rw [e]
      have h2 := HAT.out k (by omega)
      have h3 := (fi_bd ts (tg (splitL s) k)).1
      have h1 := HLO.out k hk
      rw [h2] at h1 ⊢
      omega
    have hlp := HLP.out
    rw [hL] at hlp
    have hL2 : L ≤ 4194305 := by omega
    have HRD := Lib.hid (Rd.of_own hown)
    have g5 := hbx.cell
    have HALL := Lib.hid hal
    have HKD := Lib.hid hK
    have HWS : Hid (K + 4 ≤ D) := by show _ ≤ _; have := HW2.out; omega
    clear hpb hbx hown hbel hlo htk hal HAT HAL HLP HBP HA hL hlp hK hD
    obtain ⟨al, hae⟩ : ∃ al, atsE ts s = al := ⟨_, rfl⟩
    rw [hae] at HRD HALL HPl HI
    have HAE := Lib.hid hae
    clear hae
    go_wp2_with fail
    go_loopw [10, 36] (fun v i w' => ∃ (k : Nat), k ≤ L ∧ i = .int .i64 k ∧ v = .int .u64 (mOf (al.take k)) ∧ W = w') (fun _ i _ => L - (intOf i).toNat)
    case atStart => exact ⟨0, Nat.zero_le _, rfl, rfl, rfl⟩
    case round =>
      obtain ⟨k, hk, rfl, rfl, rfl⟩ := hrel
      by_cases hlt : k < L
      · have hka : k < al.length := by have := HALL.out; omega
        obtain ⟨b, o, rfl, hbl, hc1⟩ := HRD.out.atI hlt
        have hpl := HPl.out _ (ig_mem2 hka)
        obtain ⟨y, hy⟩ : ∃ y : Nat, ig al k = y := Int.eq_ofNat_of_zero_le hpl.1
        rw [hy] at hc1 hpl
        have hy64 : y < 64 := by omega
        have hsn := mOf_snoc (al.take k) (ig al k)
        rw [← take_step hka, hy, Int.toNat_natCast] at hsn
        have hmlt := mOf_lt (HPl.out.take k)
        obtain ⟨x, hx⟩ : ∃ x, mOf (al.take k) = x := ⟨_, rfl⟩
        rw [hx] at hsn hmlt ⊢
        have h2y : 2 ^ y < 18446744073709551616 := Nat.pow_lt_pow_right (a := 2) (by decide) hy64
        have hor : bits .or .u64 (x : Int) (IntKind.u64.wrap (2 ^ y)) = ((x ||| 2 ^ y : Nat) : Int) := by
          rw [shl_one hy64, u64_or_nat _ _ hmlt h2y]
        rw [← hsn] at hor
        have HO := Lib.hid hor
        clear hsn hx hy hpl hka hbl hor h2y
        go_wp2_with fail
        go_roundw
        case rel => exact ⟨k + 1, hlt, by go_num, by rw [HO.out], by trivial⟩
        case measure => simp [intOf]; omega
      · obtain rfl : k = L := by omega
        have htk : al.take k = al := List.take_of_length_le (by rw [HALL.out]; exact Nat.le_refl _)
        have hpm := pop_mOf HPl.out k (by rw [HALL.out]; exact Nat.le_refl _)
        have hmlt := mOf_lt HPl.out
        rw [htk] at hpm ⊢
        obtain ⟨x, hx⟩ : ∃ x, mOf al = x := ⟨_, rfl⟩
        rw [hx] at hpm hmlt ⊢
        obtain ⟨pn, hpn⟩ : ∃ pn, popN x = pn := ⟨_, rfl⟩
        have hone := fun w => bits_ones x hmlt w
        rw [hpn] at hone hpm
        have HX := Lib.hid hx
        have HI' := HI.out
        have g0 := HI'.b.m.cell
        have g1 := HI'.b.y.cell
        have g2 := HI'.b.m.frozen
        have g3 := HI'.b.y.frozen
        clear hx hpn hmlt HI'
        by_cases hnd : al.Nodup
        · obtain rfl : pn = k := hpm.2.2 hnd
          have HSS : Hid (∀ q, Calls Tryd.prog 25 #[.slice B pn d] (W.drewN q) fun e w' => e = .returned (.bool (srtB al)) ∧ ∃ q', w' = (W.drewN q).drewN q') := fun q => sl_sorted B pn d al (W.drewN q) W.heap.size (HRD.out.drewN q) (by omega)
          have HND := Lib.hid hnd
          clear hsl hL2 hn64 hpm hnd hk hlt
          go_wp2_with fail
          go_quiet ((go_at_call 24; exact quiet_eq (hone _)))
          have hS := HSS.out nq
          clear HSS hone
          cases hsb : srtB al with
          | true =>
            have hE := prs_ok HZ.out HLO.out (by rw [HAE.out]; exact HND.out) (by rw [HAE.out]; exact hsb)
            rw [hsb] at hS
            have HE := Lib.hid hE
            clear hE hsb
            go_wp2_with fail
            refine hS.mono ?_
            rintro e w5 ⟨rfl, q', rfl⟩
            go_wp2_with fail
            have ho := prs_out (HI.out.drewN (nq + q')) x 0
            refine parse_out hN ho.1 ho.2 ?_ (by have := HWS.out; omega) (by rw [HE.out.2, HAE.out, HX.out]) HE.out.1 rfl rfl
            exact (KeepsOthers.setCell _ _ _).same _ _ ((KeepsOthers.setCell _ _ _).same _ _ HKD.out rfl) rfl
          | false =>
            have hE := prs_order HZ.out HLO.out (by rw [HAE.out]; exact HND.out) (by rw [HAE.out]; exact hsb)
            rw [hsb] at hS
            have HE := Lib.hid hE
            clear hE hsb
            go_wp2_with fail
            refine hS.mono ?_
            rintro e w5 ⟨rfl, q', rfl⟩
            go_wp2_with fail
            have ho := prs_out (HI.out.drewN (nq + q')) 0 11
            refine parse_out hN ho.1 ho.2 ?_ (by have := HWS.out; omega) HE.out.2 HE.out.1 rfl rfl
            exact (KeepsOthers.setCell _ _ _).same _ _ ((KeepsOthers.setCell _ _ _).same _ _ HKD.out rfl) rfl
        · have hpk : pn < k := by
            rcases Nat.lt_or_ge pn k with g | g
            · exact g
            · exact absurd (hpm.2.1 (by omega)) hnd
          have tl : decide ((pn : Int) < (k : Int)) = true := by simp; omega
          have tl' : decide (pn < k) = true := by simp; omega
          have hE := prs_twice HZ.out HLO.out (by rw [HAE.out]; exact hnd)
          have HE := Lib.hid hE
          clear hsl hL2 hn64 hpm hnd hk hlt hE hpk
          go_wp2_with fail
          go_quiet ((go_at_call 24; exact quiet_eq (hone _)))
          go_wp2_with fail
          have ho := prs_out (HI.out.drewN nq) 0 10
          refine parse_out hN ho.1 ho.2 ?_ (by have := HWS.out; omega) HE.out.2 HE.out.1 rfl rfl
          exact (KeepsOthers.setCell _ _ _).same _ _ ((KeepsOthers.setCell _ _ _).same _ _ HKD.out rfl) rfl
  case stop =>
    rintro D W hD ⟨hpb, hbel, hE1, hE2⟩ hK
    go_wp2
    exact parse_out hN hpb hbel hK (by have := HW2.out; omega) hE2 hE1 rfl rfl
theorem tag_parse (A : Option Addr) (n c : Nat) (ts : List (List Int)) (hall : ∀ t ∈ ts, Bytes t) (hsz : ∀ t ∈ ts, t.length ≤ 9223372036854775807) (s : List Int) (hs : Bytes s) (hsl : s.length ≤ 4194304) (w : World) (hr : Rd w w.heap.size A n (ts.map fun t => .string (strOfNums t))) :
    Calls Tryd.prog 11 #[.slice A n c, .string (strOfNums s)] w fun e w' => e = .returned (.tuple #[.int .u64 (prsM ts s), .int .i64 (prsW ts s)]) ∧ Below w.heap.size w w' := by
  by_cases h : chkE ts = 0 ∧ s ≠ []
  · exact tag_parse_main A n c ts hall hsz s hs hsl w hr h.1 h.2
  · refine tag_parse_early A n c ts hall hsz s hs w hr ?_
    by_cases h1 : chkE ts = 0
    · exact .inr (Classical.byContradiction fun h2 => h ⟨h1, h2⟩)
    · exact .inl h1
end Go.Proofs.YtokgcjhlmohjgaaDoor
