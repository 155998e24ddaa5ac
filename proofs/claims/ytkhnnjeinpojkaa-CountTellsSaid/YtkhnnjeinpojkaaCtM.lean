/- Counts: all contracts. Merged by mg.py out of what genCtA.py .. genCtG.py print. -/
import Derived.Test.YtkhnnjeinpojkaaPmB
import Derived.Test.YtkhnnjeinpojkaaPmD
import Derived.Test.YtkhnnjeinpojkaaRow
import Derived.Test.YtkhnnjeinpojkaaPmT
namespace Go.Proofs.Ytkhnnjeinpojkaa
open Go.RowKit Go.Maps Go.ChangeMaps Go.MapKept
def degI (ns : List ND) (s level : Int) : Int := if thB ns s = true ∧ 0 ≤ level ∧ level < (nAt ns s.toNat).ln then ((lsAt (nAt ns s.toNat) level.toNat).xs.length : Int) else 0
set_option maxRecDepth 100000 in
set_option maxHeartbeats 1000000 in
theorem pl_degree (A : Option Addr) (n c : Nat) (ns : List ND) (en tp s level : Int) (w : World) (hg : PgAt w w.heap.size A n c ns) :
    Calls Try.prog 43 #[.agg (pgL A n c en tp), .int .i64 s, .int .i64 level] w (RetE (degI ns s level) w) := by
  obtain ⟨w1, hw1⟩ : ∃ x, w.alloc (.cells (pgL A n c en tp) 56) = x := ⟨_, rfl⟩
  obtain ⟨C1, b1⟩ := box_plane hw1
  have hlen := hg.len
  have GR := hg.on b1 b1.size
  have HT := Lib.hid (pl_there A n c ns en tp s w1 GR)
  have HC := Lib.hid C1
  have HB := Lib.hid b1
  have LP := plane_load C1
  cases hq : thB ns s with
  | false =>
    have HR : Hid (degI ns s level = 0) := by show _ = _; unfold degI; rw [hq]; simp
    rw [hq] at HT
    clear hg C1 hlen b1 GR hq
    unfold pgL at hw1 HT LP ⊢
    go_enter Try.func43, Try.ntmps43
    go_upto_region 1 with fail
    (try rw [hw1])
    clear hw1
    go_wp2_with (first | refine wpList_loadE LP _ rfl rfl rfl ?_ | (go_at_call 24; refine HT.out.mono ?_; rintro e w2 ⟨rfl, bt⟩; have HB2 := Lib.hid (HB.out.trans (bt.mono HB.out.size)); clear bt))
    go_ret
    exact ⟨by rw [HR.out]; rfl, HB2.out⟩
  | true =>
    obtain ⟨k, rfl, hk⟩ := thB_nat_iff.1 hq
    have hkn : k < n := by have := (thN_iff.1 hk).2.1; omega
    obtain ⟨b, o, LA, ln, lc, rfl, hln, hlnb, HY, HL⟩ := GR.lstY hkn
    have hD : degI ns k level = if 0 ≤ level ∧ level < ln then ((lsAt (nAt ns k) level.toNat).xs.length : Int) else 0 := by
      unfold degI; rw [Int.toNat_natCast, hq, hln]; simp
    rw [hq] at HT
    have c0 := C1.cell 0
    have HC0 : Hid (∀ Y, Below w1.heap.size w1 Y → Y.cell? ⟨w.heap.size, 0, none⟩ = some (.slice (some ⟨b, o, none⟩) n c)) := fun Y hY => (hY.cell (p := ⟨w.heap.size, 0, none⟩) HC.out.lt).trans c0
    by_cases hl0 : level < 0
    · have HR : Hid (degI ns k level = 0) := by show _ = _; rw [hD, if_neg (by omega)]
      have t0 : decide (level < 0) = true := decide_eq_true hl0
      clear hg C1 hlen b1 GR hq hk hD c0 hln HL HY hkn hlnb hl0
      unfold pgL at hw1 HT LP ⊢
      go_enter Try.func43, Try.ntmps43
      go_upto_region 1 with fail
      (try rw [hw1])
      clear hw1
      go_wp2_with (first | refine wpList_loadE LP _ rfl rfl rfl ?_ | (go_at_call 24; refine HT.out.mono ?_; rintro e w2 ⟨rfl, bt⟩; have HB2 := Lib.hid (HB.out.trans (bt.mono HB.out.size)); clear bt))
      go_ret
      exact ⟨by rw [HR.out]; rfl, HB2.out⟩
    · obtain ⟨j, rfl⟩ : ∃ j : Nat, level = j := ⟨level.toNat, by omega⟩
      by_cases hj : j < ln
      · obtain ⟨b2, o2, lA, m, cc, xs, rfl, hxs, hm, hmc, hxl, hno, HYL, HRD, HWF⟩ := HL.out j hj
        have HR : Hid (degI ns k j = m) := by show _ = _; rw [hD, if_pos (by omega), Int.toNat_natCast, hxs, hxl]
        have t1 : decide ((j : Int) ≥ (ln : Int)) = false := by simp; omega
        clear hg C1 hlen b1 GR hq hk hD c0 hln HL hl0 hxs hxl hno HRD HWF
        unfold pgL at hw1 HT LP ⊢
        go_enter Try.func43, Try.ntmps43
        go_upto_region 1 with fail
        (try rw [hw1])
        clear hw1
        go_wp2_with (first | refine wpList_loadE LP _ rfl rfl rfl ?_ | (go_at_call 24; refine HT.out.mono ?_; rintro e w2 ⟨rfl, bt⟩; have HB2 := Lib.hid (HB.out.trans (bt.mono HB.out.size)); have c0 := HC0.out w2 bt; have c4 := HY.out w2 bt; have cl := HYL.out w2 bt; clear bt))
        go_ret
        exact ⟨by rw [HR.out]; rfl, HB2.out⟩
      · have HR : Hid (degI ns k j = 0) := by show _ = _; rw [hD, if_neg (by omega)]
        have t1 : decide ((j : Int) ≥ (ln : Int)) = true := by simp; omega
        clear hg C1 hlen b1 GR hq hk hD c0 hln HL hl0
        unfold pgL at hw1 HT LP ⊢
        go_enter Try.func43, Try.ntmps43
        go_upto_region 1 with fail
        (try rw [hw1])
        clear hw1
        go_wp2_with (first | refine wpList_loadE LP _ rfl rfl rfl ?_ | (go_at_call 24; refine HT.out.mono ?_; rintro e w2 ⟨rfl, bt⟩; have HB2 := Lib.hid (HB.out.trans (bt.mono HB.out.size)); have c0 := HC0.out w2 bt; have c4 := HY.out w2 bt; clear bt))
        go_ret
        exact ⟨by rw [HR.out]; rfl, HB2.out⟩
set_option maxRecDepth 100000 in
set_option maxHeartbeats 1000000 in
theorem rf_degree (A : Option Addr) (n c : Nat) (ns : List ND) (en tp s level : Int) (w : World) (hg : PgAt w w.heap.size A n c ns) :
    Calls Try.prog 44 #[.agg (pgL A n c en tp), .int .i64 s, .int .i64 level] w (RetE (degI ns s level) w) := by
  obtain ⟨w1, hw1⟩ : ∃ x, w.alloc (.cells (pgL A n c en tp) 56) = x := ⟨_, rfl⟩
  obtain ⟨C1, b1⟩ := box_plane hw1
  have hlen := hg.len
  have GR := hg.on b1 b1.size
  have HT := Lib.hid (rf_there A n c ns en tp s w1 GR)
  have HC := Lib.hid C1
  have HB := Lib.hid b1
  have LP := plane_load C1
  cases hq : thB ns s with
  | false =>
    have HR : Hid (degI ns s level = 0) := by show _ = _; unfold degI; rw [hq]; simp
    rw [hq] at HT
    clear hg C1 hlen b1 GR hq
    unfold pgL at hw1 HT LP ⊢
    go_enter Try.func44, Try.ntmps44
    go_upto_region 1 with fail
    (try rw [hw1])
    clear hw1
    go_wp2_with (first | refine wpList_loadE LP _ rfl rfl rfl ?_ | (go_at_call 25; refine HT.out.mono ?_; rintro e w2 ⟨rfl, bt⟩; have HB2 := Lib.hid (HB.out.trans (bt.mono HB.out.size)); clear bt))
    go_ret
    exact ⟨by rw [HR.out]; rfl, HB2.out⟩
  | true =>
    obtain ⟨k, rfl, hk⟩ := thB_nat_iff.1 hq
    have hkn : k < n := by have := (thN_iff.1 hk).2.1; omega
    obtain ⟨b, o, LA, ln, lc, rfl, hln, hlnb, HY, HL⟩ := GR.lstY hkn
    have hD : degI ns k level = if 0 ≤ level ∧ level < ln then ((lsAt (nAt ns k) level.toNat).xs.length : Int) else 0 := by
      unfold degI; rw [Int.toNat_natCast, hq, hln]; simp
    rw [hq] at HT
    have c0 := C1.cell 0
    have HC0 : Hid (∀ Y, Below w1.heap.size w1 Y → Y.cell? ⟨w.heap.size, 0, none⟩ = some (.slice (some ⟨b, o, none⟩) n c)) := fun Y hY => (hY.cell (p := ⟨w.heap.size, 0, none⟩) HC.out.lt).trans c0
    by_cases hl0 : level < 0
    · have HR : Hid (degI ns k level = 0) := by show _ = _; rw [hD, if_neg (by omega)]
      have t0 : decide (level < 0) = true := decide_eq_true hl0
      clear hg C1 hlen b1 GR hq hk hD c0 hln HL HY hkn hlnb hl0
      unfold pgL at hw1 HT LP ⊢
      go_enter Try.func44, Try.ntmps44
      go_upto_region 1 with fail
      (try rw [hw1])
      clear hw1
      go_wp2_with (first | refine wpList_loadE LP _ rfl rfl rfl ?_ | (go_at_call 25; refine HT.out.mono ?_; rintro e w2 ⟨rfl, bt⟩; have HB2 := Lib.hid (HB.out.trans (bt.mono HB.out.size)); clear bt))
      go_ret
      exact ⟨by rw [HR.out]; rfl, HB2.out⟩
    · obtain ⟨j, rfl⟩ : ∃ j : Nat, level = j := ⟨level.toNat, by omega⟩
      by_cases hj : j < ln
      · obtain ⟨b2, o2, lA, m, cc, xs, rfl, hxs, hm, hmc, hxl, hno, HYL, HRD, HWF⟩ := HL.out j hj
        have HR : Hid (degI ns k j = m) := by show _ = _; rw [hD, if_pos (by omega), Int.toNat_natCast, hxs, hxl]
        have t1 : decide ((j : Int) ≥ (ln : Int)) = false := by simp; omega
        clear hg C1 hlen b1 GR hq hk hD c0 hln HL hl0 hxs hxl hno HRD HWF
        unfold pgL at hw1 HT LP ⊢
        go_enter Try.func44, Try.ntmps44
        go_upto_region 1 with fail
        (try rw [hw1])
        clear hw1
        go_wp2_with (first | refine wpList_loadE LP _ rfl rfl rfl ?_ | (go_at_call 25; refine HT.out.mono ?_; rintro e w2 ⟨rfl, bt⟩; have HB2 := Lib.hid (HB.out.trans (bt.mono HB.out.size)); have c0 := HC0.out w2 bt; have c4 := HY.out w2 bt; have cl := HYL.out w2 bt; clear bt))
        go_ret
        exact ⟨by rw [HR.out]; rfl, HB2.out⟩
      · have HR : Hid (degI ns k j = 0) := by show _ = _; rw [hD, if_neg (by omega)]
        have t1 : decide ((j : Int) ≥ (ln : Int)) = true := by simp; omega
        clear hg C1 hlen b1 GR hq hk hD c0 hln HL hl0
        unfold pgL at hw1 HT LP ⊢
        go_enter Try.func44, Try.ntmps44
        go_upto_region 1 with fail
        (try rw [hw1])
        clear hw1
        go_wp2_with (first | refine wpList_loadE LP _ rfl rfl rfl ?_ | (go_at_call 25; refine HT.out.mono ?_; rintro e w2 ⟨rfl, bt⟩; have HB2 := Lib.hid (HB.out.trans (bt.mono HB.out.size)); have c0 := HC0.out w2 bt; have c4 := HY.out w2 bt; clear bt))
        go_ret
        exact ⟨by rw [HR.out]; rfl, HB2.out⟩
theorem fold_take {β : Type} (f : β → Int → β) (a : β) {l : List Int} {k : Nat} (hk : k < l.length) : (l.take (k + 1)).foldl f a = f ((l.take k).foldl f a) (ig l k) := by rw [take_step hk, List.foldl_append]; rfl
theorem deg_nat {w : World} {B : Nat} {A : Option Addr} {n c : Nat} {ns : List ND} (h : PgAt w B A n c ns) (s level : Int) : ∃ d : Nat, degI ns s level = d ∧ d ≤ 1048576 := by
  unfold degI
  split
  · rename_i h1
    obtain ⟨k, rfl, hk⟩ := thB_nat_iff.1 h1.1
    refine ⟨_, rfl, ?_⟩
    have hkn : k < n := by have := (thN_iff.1 hk).2.1; have := h.len; omega
    obtain ⟨b, o, e, hb, hc, ha⟩ := h.lists hkn
    rw [Int.toNat_natCast] at h1 ⊢
    obtain ⟨b2, o2, e2, hb2, hc2, ha2⟩ := nd_list ha (i := level.toNat) (by omega)
    rw [ha2.len]
    exact ha2.2.1
  · exact ⟨0, rfl, by decide⟩
def addF (ns : List ND) (level a x : Int) : Int := a + degI ns x level
def edgI (ns : List ND) (level : Int) : Int := (liveI ns).foldl (addF ns level) 0 / 2
def widF (ns : List ND) (level : Int) (p : Int × Int) (x : Int) : Int × Int := if (p.1 == 0) = true ∨ degI ns x level > p.2 then (x, degI ns x level) else p
def widI (ns : List ND) (level : Int) : Int × Int := (liveI ns).foldl (widF ns level) (0, 0)
def RetII (p : Int × Int) (w : World) (e : Ending) (w' : World) : Prop := e = .returned (.tuple #[.int .i64 p.1, .int .i64 p.2]) ∧ Below w.heap.size w w'
set_option maxRecDepth 100000 in
set_option maxHeartbeats 1000000 in
theorem pl_edges (A : Option Addr) (n c : Nat) (ns : List ND) (en tp level : Int) (w : World) (hg : PgAt w w.heap.size A n c ns) :
    Calls Try.prog 45 #[.agg (pgL A n c en tp), .int .i64 level] w (RetE (edgI ns level) w) := by
  obtain ⟨w1, hw1⟩ : ∃ x, w.alloc (.cells (pgL A n c en tp) 56) = x := ⟨_, rfl⟩
  obtain ⟨C1, b1⟩ := box_plane hw1
  have HL := Lib.hid hg.len
  have hn := hg.2.1
  have GR := hg.on b1 b1.size
  have HLV := Lib.hid (pl_live A n c ns en tp w1 GR)
  have HG := Lib.hid GR
  have HC := Lib.hid C1
  have HB := Lib.hid b1
  have LP := plane_load C1
  clear hg C1 b1 GR
  unfold pgL at hw1 HLV LP ⊢
  go_enter Try.func45, Try.ntmps45
  go_upto_region 1 with fail
  (try rw [hw1])
  clear hw1
  go_wp2_with (first
    | refine wpList_loadE LP _ rfl rfl rfl ?_
    | (go_at_call 27; (with_reducible refine HLV.out.mono ?_); rintro e w3 ⟨A2, n2, c2, rfl, ho2, b3⟩; have HO := Lib.hid ho2; have HOL := Lib.hid ho2.len; have HB3 := Lib.hid b3; clear ho2 b3))
  have hl2 : n2 ≤ 1048576 := by have h1 := HOL.out; have h2 := lvI_le ns ns.length; have h3 := HL.out; unfold liveI at h1; omega
  clear LP HLV
  go_loopw [5, 7, 11] (fun s5 _ s11 wr => ∃ j t : Nat, j ≤ n2 ∧ t ≤ j * 1048576 ∧ s5 = .int .i64 t ∧ s11 = .int .i64 j ∧ Hid (((liveI ns).take j).foldl (addF ns level) 0 = t) ∧ Hid (Below w3.heap.size w3 wr)) (fun _ _ s11 _ => n2 - (intOf s11).toNat)
  case atStart => exact ⟨0, 0, Nat.zero_le _, Nat.zero_le _, rfl, rfl, Lib.hid (by show _ = _; simp), Lib.hid (Below.refl _ _)⟩
  case round =>
    obtain ⟨j, t, hj, ht, rfl, rfl, hfr, hbr⟩ := hrel
    have hb := Lib.hid (HB3.out.trans (hbr.out.mono HB3.out.size))
    have HGW := Lib.hid (HG.out.on hb.out hb.out.size)
    have HCW := Lib.hid (HC.out.below hb.out HC.out.lt)
    by_cases hlj : j < n2
    · obtain ⟨b3, hA2, hb3, hb4, hx3⟩ := HO.out.cellY hlj
      have hx4 : wr.cell? ⟨b3, j, none⟩ = some (.int .i64 (ig (liveI ns) j)) := (hbr.out.cell (p := ⟨b3, j, none⟩) hb4).trans hx3
      have hxj : j < (liveI ns).length := by rw [HOL.out]; exact hlj
      have hfo := fold_take (addF ns level) 0 hxj
      rw [hfr.out] at hfo
      obtain ⟨x, hx⟩ : ∃ x, ig (liveI ns) j = x := ⟨_, rfl⟩
      rw [hx] at hx4 hfo
      subst hA2
      obtain ⟨d, hd, hdm⟩ := deg_nat HGW.out x level
      have HDG := pl_degree A n c ns en tp x level wr HGW.out
      rw [hd] at HDG
      have LP := plane_load HCW.out
      have hfo' : Hid (((liveI ns).take (j + 1)).foldl (addF ns level) 0 = ((t + d : Nat) : Int)) := by show _ = _; rw [hfo]; unfold addF; rw [hd]; omega
      clear hfo hd hx hx3 hb3 hb4
      unfold pgL at LP HDG
      replace HDG := Lib.hid HDG
      go_wp2_with (first
        | refine wpList_loadE LP _ rfl rfl rfl ?_
        | (go_at_call 43; (with_reducible refine HDG.out.mono ?_); rintro e w5 ⟨rfl, b5⟩; have HB5 := Lib.hid (hbr.out.trans (b5.mono hbr.out.size)); clear b5))
      clear LP HDG
      go_roundw
      case rel => exact ⟨j + 1, t + d, by omega, by omega, by go_num, by go_num, hfo', HB5⟩
      case measure => simp [intOf]; omega
    · obtain rfl : j = n2 := by omega
      have hfin : Hid (edgI ns level = ((t / 2 : Nat) : Int)) := by
        show _ = _
        unfold edgI
        have h1 := hfr.out
        rw [List.take_of_length_le (by rw [HOL.out]; exact Nat.le_refl _)] at h1
        rw [h1]; omega
      have HBB := Lib.hid (HB.out.trans (hb.out.mono HB.out.size))
      clear hfr HGW HCW hb
      go_wp2_with fail
      go_ret
      exact ⟨by rw [hfin.out]; rfl, HBB.out⟩
set_option maxRecDepth 100000 in
set_option maxHeartbeats 1000000 in
theorem rf_edges (A : Option Addr) (n c : Nat) (ns : List ND) (en tp level : Int) (w : World) (hg : PgAt w w.heap.size A n c ns) :
    Calls Try.prog 46 #[.agg (pgL A n c en tp), .int .i64 level] w (RetE (edgI ns level) w) := by
  obtain ⟨w1, hw1⟩ : ∃ x, w.alloc (.cells (pgL A n c en tp) 56) = x := ⟨_, rfl⟩
  obtain ⟨C1, b1⟩ := box_plane hw1
  have HL := Lib.hid hg.len
  have hn := hg.2.1
  have GR := hg.on b1 b1.size
  have HLV := Lib.hid (rf_live A n c ns en tp w1 GR)
  have HG := Lib.hid GR
  have HC := Lib.hid C1
  have HB := Lib.hid b1
  have LP := plane_load C1
  clear hg C1 b1 GR
  unfold pgL at hw1 HLV LP ⊢
  go_enter Try.func46, Try.ntmps46
  go_upto_region 1 with fail
  (try rw [hw1])
  clear hw1
  go_wp2_with (first
    | refine wpList_loadE LP _ rfl rfl rfl ?_
    | (go_at_call 28; (with_reducible refine HLV.out.mono ?_); rintro e w3 ⟨A2, n2, c2, rfl, ho2, b3⟩; have HO := Lib.hid ho2; have HOL := Lib.hid ho2.len; have HB3 := Lib.hid b3; clear ho2 b3))
  have hl2 : n2 ≤ 1048576 := by have h1 := HOL.out; have h2 := lvI_le ns ns.length; have h3 := HL.out; unfold liveI at h1; omega
  clear LP HLV
  go_loopw [5, 7, 11] (fun s5 _ s11 wr => ∃ j t : Nat, j ≤ n2 ∧ t ≤ j * 1048576 ∧ s5 = .int .i64 t ∧ s11 = .int .i64 j ∧ Hid (((liveI ns).take j).foldl (addF ns level) 0 = t) ∧ Hid (Below w3.heap.size w3 wr)) (fun _ _ s11 _ => n2 - (intOf s11).toNat)
  case atStart => exact ⟨0, 0, Nat.zero_le _, Nat.zero_le _, rfl, rfl, Lib.hid (by show _ = _; simp), Lib.hid (Below.refl _ _)⟩
  case round =>
    obtain ⟨j, t, hj, ht, rfl, rfl, hfr, hbr⟩ := hrel
    have hb := Lib.hid (HB3.out.trans (hbr.out.mono HB3.out.size))
    have HGW := Lib.hid (HG.out.on hb.out hb.out.size)
    have HCW := Lib.hid (HC.out.below hb.out HC.out.lt)
    by_cases hlj : j < n2
    · obtain ⟨b3, hA2, hb3, hb4, hx3⟩ := HO.out.cellY hlj
      have hx4 : wr.cell? ⟨b3, j, none⟩ = some (.int .i64 (ig (liveI ns) j)) := (hbr.out.cell (p := ⟨b3, j, none⟩) hb4).trans hx3
      have hxj : j < (liveI ns).length := by rw [HOL.out]; exact hlj
      have hfo := fold_take (addF ns level) 0 hxj
      rw [hfr.out] at hfo
      obtain ⟨x, hx⟩ : ∃ x, ig (liveI ns) j = x := ⟨_, rfl⟩
      rw [hx] at hx4 hfo
      subst hA2
      obtain ⟨d, hd, hdm⟩ := deg_nat HGW.out x level
      have HDG := rf_degree A n c ns en tp x level wr HGW.out
      rw [hd] at HDG
      have LP := plane_load HCW.out
      have hfo' : Hid (((liveI ns).take (j + 1)).foldl (addF ns level) 0 = ((t + d : Nat) : Int)) := by show _ = _; rw [hfo]; unfold addF; rw [hd]; omega
      clear hfo hd hx hx3 hb3 hb4
      unfold pgL at LP HDG
      replace HDG := Lib.hid HDG
      go_wp2_with (first
        | refine wpList_loadE LP _ rfl rfl rfl ?_
        | (go_at_call 44; (with_reducible refine HDG.out.mono ?_); rintro e w5 ⟨rfl, b5⟩; have HB5 := Lib.hid (hbr.out.trans (b5.mono hbr.out.size)); clear b5))
      clear LP HDG
      go_roundw
      case rel => exact ⟨j + 1, t + d, by omega, by omega, by go_num, by go_num, hfo', HB5⟩
      case measure => simp [intOf]; omega
    · obtain rfl : j = n2 := by omega
      have hfin : Hid (edgI ns level = ((t / 2 : Nat) : Int)) := by
        show _ = _
        unfold edgI
        have h1 := hfr.out
        rw [List.take_of_length_le (by rw [HOL.out]; exact Nat.le_refl _)] at h1
        rw [h1]; omega
      have HBB := Lib.hid (HB.out.trans (hb.out.mono HB.out.size))
      clear hfr HGW HCW hb
      go_wp2_with fail
      go_ret
      exact ⟨by rw [hfin.out]; rfl, HBB.out⟩
set_option maxRecDepth 100000 in
set_option maxHeartbeats 1000000 in
theorem pl_widest (A : Option Addr) (n c : Nat) (ns : List ND) (en tp level : Int) (w : World) (hg : PgAt w w.heap.size A n c ns) :
    Calls Try.prog 39 #[.agg (pgL A n c en tp), .int .i64 level] w (RetII (widI ns level) w) := by
  obtain ⟨w1, hw1⟩ : ∃ x, w.alloc (.cells (pgL A n c en tp) 56) = x := ⟨_, rfl⟩
  obtain ⟨C1, b1⟩ := box_plane hw1
  have HL := Lib.hid hg.len
  have hn := hg.2.1
  have GR := hg.on b1 b1.size
  have HLV := Lib.hid (pl_live A n c ns en tp w1 GR)
  have HG := Lib.hid GR
  have HC := Lib.hid C1
  have HB := Lib.hid b1
  have LP := plane_load C1
  clear hg C1 b1 GR
  unfold pgL at hw1 HLV LP ⊢
  go_enter Try.func39, Try.ntmps39
  go_upto_region 1 with fail
  (try rw [hw1])
  clear hw1
  go_wp2_with (first
    | refine wpList_loadE LP _ rfl rfl rfl ?_
    | (go_at_call 27; (with_reducible refine HLV.out.mono ?_); rintro e w3 ⟨A2, n2, c2, rfl, ho2, b3⟩; have HO := Lib.hid ho2; have HOL := Lib.hid ho2.len; have HB3 := Lib.hid b3; clear ho2 b3))
  have hl2 : n2 ≤ 1048576 := by have h1 := HOL.out; have h2 := lvI_le ns ns.length; have h3 := HL.out; unfold liveI at h1; omega
  clear LP HLV
  go_loopw [4, 5, 7, 8, 12] (fun s4 s5 _ _ s12 wr => ∃ (j : Nat) (p q : Int), j ≤ n2 ∧ s4 = .int .i64 p ∧ s5 = .int .i64 q ∧ s12 = .int .i64 j ∧ Hid (((liveI ns).take j).foldl (widF ns level) (0, 0) = (p, q)) ∧ Hid (Below w3.heap.size w3 wr)) (fun _ _ _ _ s12 _ => n2 - (intOf s12).toNat)
  case atStart => exact ⟨0, 0, 0, Nat.zero_le _, rfl, rfl, rfl, Lib.hid (by show _ = _; simp), Lib.hid (Below.refl _ _)⟩
  case round =>
    obtain ⟨j, p, q, hj, rfl, rfl, rfl, hfr, hbr⟩ := hrel
    have hb := Lib.hid (HB3.out.trans (hbr.out.mono HB3.out.size))
    have HGW := Lib.hid (HG.out.on hb.out hb.out.size)
    have HCW := Lib.hid (HC.out.below hb.out HC.out.lt)
    by_cases hlj : j < n2
    · obtain ⟨b3, hA2, hb3, hb4, hx3⟩ := HO.out.cellY hlj
      have hx4 : wr.cell? ⟨b3, j, none⟩ = some (.int .i64 (ig (liveI ns) j)) := (hbr.out.cell (p := ⟨b3, j, none⟩) hb4).trans hx3
      have hxj : j < (liveI ns).length := by rw [HOL.out]; exact hlj
      have hfo := fold_take (widF ns level) (0, 0) hxj
      rw [hfr.out] at hfo
      obtain ⟨x, hx⟩ : ∃ x, ig (liveI ns) j = x := ⟨_, rfl⟩
      rw [hx] at hx4 hfo
      subst hA2
      obtain ⟨d, hd, hdm⟩ := deg_nat HGW.out x level
      have HDG := pl_degree A n c ns en tp x level wr HGW.out
      rw [hd] at HDG
      have LP := plane_load HCW.out
      have hfo' : Hid (((liveI ns).take (j + 1)).foldl (widF ns level) (0, 0) = if (p == 0) = true ∨ (d : Int) > q then (x, (d : Int)) else (p, q)) := by show _ = _; rw [hfo]; unfold widF; rw [hd]
      clear hfo hd hx hx3 hb3 hb4
      unfold pgL at LP HDG
      replace HDG := Lib.hid HDG
      cases hp : (p == 0) with
      | true =>
        have hfo2 : Hid (((liveI ns).take (j + 1)).foldl (widF ns level) (0, 0) = (x, (d : Int))) := by show _ = _; rw [hfo'.out, hp]; simp
        clear hfo'
        go_wp2_with (first
          | refine wpList_loadE LP _ rfl rfl rfl ?_
          | (go_at_call 43; (with_reducible refine HDG.out.mono ?_); rintro e w5 ⟨rfl, b5⟩; have HB5 := Lib.hid (hbr.out.trans (b5.mono hbr.out.size)); clear b5))
        clear LP HDG hp
        go_roundw
        case rel => exact ⟨j + 1, x, d, by omega, rfl, rfl, by go_num, hfo2, HB5⟩
        case measure => simp [intOf]; omega
      | false =>
        cases hq : decide ((d : Int) > q) with
        | true =>
          have hfo2 : Hid (((liveI ns).take (j + 1)).foldl (widF ns level) (0, 0) = (x, (d : Int))) := by show _ = _; rw [hfo'.out, if_pos (.inr (of_decide_eq_true hq))]
          clear hfo'
          go_wp2_with (first
            | refine wpList_loadE LP _ rfl rfl rfl ?_
            | (go_at_call 43; (with_reducible refine HDG.out.mono ?_); rintro e w5 ⟨rfl, b5⟩; have HB5 := Lib.hid (hbr.out.trans (b5.mono hbr.out.size)); clear b5))
          clear LP HDG hp hq
          go_roundw
          case rel => exact ⟨j + 1, x, d, by omega, rfl, rfl, by go_num, hfo2, HB5⟩
          case measure => simp [intOf]; omega
        | false =>
          have hfo2 : Hid (((liveI ns).take (j + 1)).foldl (widF ns level) (0, 0) = (p, q)) := by show _ = _; rw [hfo'.out, if_neg (by rw [hp]; have h1 := of_decide_eq_false hq; rintro (h2 | h2); exact absurd h2 (by decide); exact h1 h2)]
          clear hfo'
          go_wp2_with (first
            | refine wpList_loadE LP _ rfl rfl rfl ?_
            | (go_at_call 43; (with_reducible refine HDG.out.mono ?_); rintro e w5 ⟨rfl, b5⟩; have HB5 := Lib.hid (hbr.out.trans (b5.mono hbr.out.size)); clear b5))
          clear LP HDG hp hq
          go_roundw
          case rel => exact ⟨j + 1, p, q, by omega, rfl, rfl, by go_num, hfo2, HB5⟩
          case measure => simp [intOf]; omega
    · obtain rfl : j = n2 := by omega
      have hfin : Hid (widI ns level = (p, q)) := by
        show _ = _
        unfold widI
        have h1 := hfr.out
        rwa [List.take_of_length_le (by rw [HOL.out]; exact Nat.le_refl _)] at h1
      have HBB := Lib.hid (HB.out.trans (hb.out.mono HB.out.size))
      clear hfr HGW HCW hb
      go_wp2_with fail
      go_ret2
      exact ⟨by rw [hfin.out]; rfl, HBB.out⟩
set_option maxRecDepth 100000 in
set_option maxHeartbeats 1000000 in
theorem rf_widest (A : Option Addr) (n c : Nat) (ns : List ND) (en tp level : Int) (w : World) (hg : PgAt w w.heap.size A n c ns) :
    Calls Try.prog 40 #[.agg (pgL A n c en tp), .int .i64 level] w (RetII (widI ns level) w) := by
  obtain ⟨w1, hw1⟩ : ∃ x, w.alloc (.cells (pgL A n c en tp) 56) = x := ⟨_, rfl⟩
  obtain ⟨C1, b1⟩ := box_plane hw1
  have HL := Lib.hid hg.len
  have hn := hg.2.1
  have GR := hg.on b1 b1.size
  have HLV := Lib.hid (rf_live A n c ns en tp w1 GR)
  have HG := Lib.hid GR
  have HC := Lib.hid C1
  have HB := Lib.hid b1
  have LP := plane_load C1
  clear hg C1 b1 GR
  unfold pgL at hw1 HLV LP ⊢
  go_enter Try.func40, Try.ntmps40
  go_upto_region 1 with fail
  (try rw [hw1])
  clear hw1
  go_wp2_with (first
    | refine wpList_loadE LP _ rfl rfl rfl ?_
    | (go_at_call 28; (with_reducible refine HLV.out.mono ?_); rintro e w3 ⟨A2, n2, c2, rfl, ho2, b3⟩; have HO := Lib.hid ho2; have HOL := Lib.hid ho2.len; have HB3 := Lib.hid b3; clear ho2 b3))
  have hl2 : n2 ≤ 1048576 := by have h1 := HOL.out; have h2 := lvI_le ns ns.length; have h3 := HL.out; unfold liveI at h1; omega
  clear LP HLV
  go_loopw [6, 7, 9, 10, 14] (fun s4 s5 _ _ s12 wr => ∃ (j : Nat) (p q : Int), j ≤ n2 ∧ s4 = .int .i64 p ∧ s5 = .int .i64 q ∧ s12 = .int .i64 j ∧ Hid (((liveI ns).take j).foldl (widF ns level) (0, 0) = (p, q)) ∧ Hid (Below w3.heap.size w3 wr)) (fun _ _ _ _ s12 _ => n2 - (intOf s12).toNat)
  case atStart => exact ⟨0, 0, 0, Nat.zero_le _, rfl, rfl, rfl, Lib.hid (by show _ = _; simp), Lib.hid (Below.refl _ _)⟩
  case round =>
    obtain ⟨j, p, q, hj, rfl, rfl, rfl, hfr, hbr⟩ := hrel
    have hb := Lib.hid (HB3.out.trans (hbr.out.mono HB3.out.size))
    have HGW := Lib.hid (HG.out.on hb.out hb.out.size)
    have HCW := Lib.hid (HC.out.below hb.out HC.out.lt)
    by_cases hlj : j < n2
    · obtain ⟨b3, hA2, hb3, hb4, hx3⟩ := HO.out.cellY hlj
      have hx4 : wr.cell? ⟨b3, j, none⟩ = some (.int .i64 (ig (liveI ns) j)) := (hbr.out.cell (p := ⟨b3, j, none⟩) hb4).trans hx3
      have hxj : j < (liveI ns).length := by rw [HOL.out]; exact hlj
      have hfo := fold_take (widF ns level) (0, 0) hxj
      rw [hfr.out] at hfo
      obtain ⟨x, hx⟩ : ∃ x, ig (liveI ns) j = x := ⟨_, rfl⟩
      rw [hx] at hx4 hfo
      subst hA2
      obtain ⟨d, hd, hdm⟩ := deg_nat HGW.out x level
      have HDG := rf_degree A n c ns en tp x level wr HGW.out
      rw [hd] at HDG
      have LP := plane_load HCW.out
      have hfo' : Hid (((liveI ns).take (j + 1)).foldl (widF ns level) (0, 0) = if (p == 0) = true ∨ (d : Int) > q then (x, (d : Int)) else (p, q)) := by show _ = _; rw [hfo]; unfold widF; rw [hd]
      clear hfo hd hx hx3 hb3 hb4
      unfold pgL at LP HDG
      replace HDG := Lib.hid HDG
      cases hp : (p == 0) with
      | true =>
        have hfo2 : Hid (((liveI ns).take (j + 1)).foldl (widF ns level) (0, 0) = (x, (d : Int))) := by show _ = _; rw [hfo'.out, hp]; simp
        clear hfo'
        go_wp2_with (first
          | refine wpList_loadE LP _ rfl rfl rfl ?_
          | (go_at_call 44; (with_reducible refine HDG.out.mono ?_); rintro e w5 ⟨rfl, b5⟩; have HB5 := Lib.hid (hbr.out.trans (b5.mono hbr.out.size)); clear b5))
        clear LP HDG hp
        go_roundw
        case rel => exact ⟨j + 1, x, d, by omega, rfl, rfl, by go_num, hfo2, HB5⟩
        case measure => simp [intOf]; omega
      | false =>
        cases hq : decide ((d : Int) > q) with
        | true =>
          have hfo2 : Hid (((liveI ns).take (j + 1)).foldl (widF ns level) (0, 0) = (x, (d : Int))) := by show _ = _; rw [hfo'.out, if_pos (.inr (of_decide_eq_true hq))]
          clear hfo'
          go_wp2_with (first
            | refine wpList_loadE LP _ rfl rfl rfl ?_
            | (go_at_call 44; (with_reducible refine HDG.out.mono ?_); rintro e w5 ⟨rfl, b5⟩; have HB5 := Lib.hid (hbr.out.trans (b5.mono hbr.out.size)); clear b5))
          clear LP HDG hp hq
          go_roundw
          case rel => exact ⟨j + 1, x, d, by omega, rfl, rfl, by go_num, hfo2, HB5⟩
          case measure => simp [intOf]; omega
        | false =>
          have hfo2 : Hid (((liveI ns).take (j + 1)).foldl (widF ns level) (0, 0) = (p, q)) := by show _ = _; rw [hfo'.out, if_neg (by rw [hp]; have h1 := of_decide_eq_false hq; rintro (h2 | h2); exact absurd h2 (by decide); exact h1 h2)]
          clear hfo'
          go_wp2_with (first
            | refine wpList_loadE LP _ rfl rfl rfl ?_
            | (go_at_call 44; (with_reducible refine HDG.out.mono ?_); rintro e w5 ⟨rfl, b5⟩; have HB5 := Lib.hid (hbr.out.trans (b5.mono hbr.out.size)); clear b5))
          clear LP HDG hp hq
          go_roundw
          case rel => exact ⟨j + 1, p, q, by omega, rfl, rfl, by go_num, hfo2, HB5⟩
          case measure => simp [intOf]; omega
    · obtain rfl : j = n2 := by omega
      have hfin : Hid (widI ns level = (p, q)) := by
        show _ = _
        unfold widI
        have h1 := hfr.out
        rwa [List.take_of_length_le (by rw [HOL.out]; exact Nat.le_refl _)] at h1
      have HBB := Lib.hid (HB.out.trans (hb.out.mono HB.out.size))
      clear hfr HGW HCW hb
      go_wp2_with fail
      go_ret2
      exact ⟨by rw [hfin.out]; rfl, HBB.out⟩
theorem ct_kept_filter (p : Int → Bool) (xs : List Int) : ∀ k, k ≤ xs.length → keptI (fun i => p (ig xs i)) xs k = (xs.take k).filter fun x => !p x
  | 0, _ => by simp [keptI]
  | k + 1, h => by
    show keptI (fun i => p (ig xs i)) xs k ++ _ = _
    rw [ct_kept_filter p xs k (by omega), take_step (by omega), List.filter_append]
    congr 1
    cases hp : p (ig xs k) <;> simp [hp]
theorem ct_kept_all (p : Int → Bool) {xs : List Int} {n : Nat} (h : xs.length = n) : keptI (fun i => p (ig xs i)) xs n = xs.filter fun x => !p x := by
  rw [ct_kept_filter p xs n (by omega), List.take_of_length_le (by omega)]
/-- DeleteFunc, by a function that leaves all below be. -/
theorem del_base (X : World) (A : Option Addr) (n c : Nat) (xs : List Int) (f : FuncId) (caps : Array Value) (q : Nat → Bool) (w : World) (hb : Below X.heap.size X w) (hn : n ≤ 2097152)
    (hcf : ∀ args w, (callFunc f args).run Try.prog w = .ok (.enter f args) w) (ho : OwnI w X.heap.size A n c xs)
    (hcl : ∀ i W, i < n → Below X.heap.size X W → Calls Try.prog f (#[.int .i64 (ig xs i)] ++ caps) W (RetB (q i) W)) :
    Calls Try.prog 75 #[.slice A n c, .func (.func f) #[] caps] w fun e w' => ∃ m, e = .returned (.slice A m c) ∧ OwnI w' X.heap.size A m c (keptI q xs n) ∧ Below X.heap.size X w' := by
  have hgA : ∀ g, A = some ⟨g, 0, none⟩ → X.heap.size ≤ g ∧ g < w.heap.size := by
    intro g e
    rcases ho.row with ⟨e', _⟩ | ⟨g', e', hB', _, _, cs, hr, _⟩
    · rw [e'] at e; cases e
    · rw [e'] at e
      injection e with e
      injection e with e
      subst e
      exact ⟨hB', hr.ib.lt⟩
  refine (del_func A n c X.heap.size xs f caps q (fun _ W => Below X.heap.size X W ∧ w.heap.size ≤ W.heap.size) w hn hcf ho (fun i W hi hk => (hcl i W hi hk.1).mono ?_) (fun g e i W j u hk => ⟨below_setCells hk.1 (Nat.le_refl _) (hgA g e).1 [u] j, ?_⟩) ⟨hb, Nat.le_refl _⟩).mono ?_
  · rintro e w' ⟨rfl, hw⟩
    refine ⟨rfl, ⟨hk.1.trans (hw.mono hk.1.size), Nat.le_trans hk.2 hw.size⟩, fun g e => ?_⟩
    exact hw.block g (by have := (hgA g e).2; have := hk.2; omega)
  · exact Nat.le_trans hk.2 (Tch.setCell (S := fun _ => True) (Tch.refl _ _) trivial _ _).size
  · rintro e w' ⟨m, rfl, h1, h2⟩
    exact ⟨m, rfl, h1, h2.1⟩
def lowB (ns : List ND) (level x : Int) : Bool := decide ((nAt ns x.toNat).level < level)
def highI (ns : List ND) (level : Int) : List Int := (liveI ns).filter fun x => !lowB ns level x
def manyB (ns : List ND) (level x : Int) : Bool := decide (degI ns x level > 0)
def aloneI (ns : List ND) (level : Int) : List Int := (highI ns level).filter fun x => !manyB ns level x
theorem highI_le (ns : List ND) (level : Int) : (highI ns level).length ≤ ns.length := Nat.le_trans (List.length_filter_le _ _) (lvI_le _ _)
set_option maxRecDepth 100000 in
set_option maxHeartbeats 1000000 in
theorem hi_cl (A : Option Addr) (n c : Nat) (ns : List ND) (level : Int) (k t2 t3 : Nat) (W : World) (hg : PgAt W W.heap.size A n c ns) (hk : k < n)
    (c2 : W.cell? ⟨t2, 0, none⟩ = some (.slice A n c)) (c3 : W.cell? ⟨t3, 0, none⟩ = some (.int .i64 level)) :
    Calls Try.prog 108 #[.int .i64 k, .pointer (some ⟨t2, 0, none⟩), .pointer (some ⟨t3, 0, none⟩)] W (RetB (lowB ns level k) W) := by
  obtain ⟨b, o, rfl, HY⟩ := hg.levY hk
  have c1 := HY.out W (Below.refl _ _)
  have hn := hg.2.1
  have HV : Hid (lowB ns level k = decide ((nAt ns k).level < level)) := by show _ = _; unfold lowB; rw [Int.toNat_natCast]
  obtain ⟨l, hl⟩ : ∃ l, (nAt ns k).level = l := ⟨_, rfl⟩
  rw [hl] at c1 HV
  clear hg HY hl
  go_enter Try.func108, Try.ntmps108
  go_wp2_with fail
  go_quiet (fail)
  have HBN := Lib.hid (below_drewN (Below.refl W.heap.size W) nq)
  go_wp2_with fail
  go_ret
  exact ⟨by rw [HV.out]; rfl, HBN.out⟩
set_option maxRecDepth 100000 in
set_option maxHeartbeats 1000000 in
theorem al_cl (A : Option Addr) (n c : Nat) (ns : List ND) (en tp level x : Int) (t1 t2 : Nat) (W : World) (hg : PgAt W W.heap.size A n c ns)
    (k1 : Blk W t1 56 (pgL A n c en tp)) (c2 : W.cell? ⟨t2, 0, none⟩ = some (.int .i64 level)) :
    Calls Try.prog 86 #[.int .i64 x, .pointer (some ⟨t1, 0, none⟩), .pointer (some ⟨t2, 0, none⟩)] W (RetB (manyB ns level x) W) := by
  have LP := plane_load k1
  have HDG := pl_degree A n c ns en tp x level W hg
  obtain ⟨d, hd, hdm⟩ := deg_nat hg x level
  rw [hd] at HDG
  have HV : Hid (manyB ns level x = decide ((d : Int) > 0)) := by show _ = _; unfold manyB; rw [hd]
  clear hg k1 hd
  unfold pgL at LP HDG
  replace HDG := Lib.hid HDG
  go_enter Try.func86, Try.ntmps86
  go_wp2_with (first
    | refine wpList_loadE LP _ rfl rfl rfl ?_
    | (go_at_call 43; (with_reducible refine HDG.out.mono ?_); rintro e w5 ⟨rfl, b5⟩; have HB5 := Lib.hid b5; clear b5))
  go_ret
  exact ⟨by rw [HV.out]; simp [go_sem], HB5.out⟩
set_option maxRecDepth 100000 in
set_option maxHeartbeats 1000000 in
theorem pl_high (A : Option Addr) (n c : Nat) (ns : List ND) (en tp level : Int) (w : World) (hg : PgAt w w.heap.size A n c ns) :
    Calls Try.prog 85 #[.agg (pgL A n c en tp), .int .i64 level] w (RetI (highI ns level) w) := by
  obtain ⟨w1, hw1⟩ : ∃ x, w.alloc (.cells (pgL A n c en tp) 56) = x := ⟨_, rfl⟩
  obtain ⟨C1, b1⟩ := box_plane hw1
  obtain ⟨w2, hw2⟩ : ∃ x, w1.alloc (.cells #[.int .i64 level] 3) = x := ⟨_, rfl⟩
  have b2 : Below w1.heap.size w1 w2 := by rw [← hw2]; exact bel_box _ _
  have K2 : Blk w2 w1.heap.size 3 #[.int .i64 level] := by rw [← hw2]; exact Blk.new _ _ _
  have C2 := C1.below b2 C1.lt
  have b12 := b1.trans (b2.mono b1.size)
  have HL := Lib.hid hg.len
  have hn := hg.2.1
  have GR := (hg.on b1 b1.size).on b2 b2.size
  have HLV := Lib.hid (pl_live A n c ns en tp w2 GR)
  have HG := Lib.hid GR
  have HC := Lib.hid C2
  have HK := Lib.hid K2
  have HB := Lib.hid b12
  have LP := plane_load C2
  clear hg C1 b1 GR b2 K2 C2 b12
  unfold pgL at hw1 HLV LP ⊢
  go_enter Try.func85, Try.ntmps85
  go_upto_region 1 with fail
  (try rw [hw1, hw2])
  clear hw1 hw2
  go_wp2_with (first
    | refine wpList_loadE LP _ rfl rfl rfl ?_
    | (go_at_call 27; (with_reducible refine HLV.out.mono ?_); rintro e w3 ⟨A2, n2, c2, rfl, ho2, b3⟩;
       have HDL := Lib.hid (del_base w2 A2 n2 c2 (liveI ns) 108 #[.pointer (some ⟨w.heap.size, 0, none⟩), .pointer (some ⟨w1.heap.size, 0, none⟩)] (fun i => lowB ns level (ig (liveI ns) i)) w3 b3 (by have h1 := ho2.len; have h2 := lvI_le ns ns.length; have h3 := HL.out; unfold liveI at h1; omega)
         (enters_of Try.func108 (by kernel_rfl) rfl) ho2 (fun i W hi hW => by
           obtain ⟨k, hx, hkt, hkl⟩ := live_nat (ig_mem (xs := liveI ns) (k := i) (by rw [ho2.len]; exact hi))
           rw [hx]
           exact hi_cl A n c ns level k w.heap.size w1.heap.size W (HG.out.on hW hW.size) (by have h3 := HL.out; omega) ((HC.out.below hW HC.out.lt).cell 0) ((HK.out.below hW HK.out.lt).cell 0)));
       have HKA := Lib.hid (ct_kept_all (lowB ns level) ho2.len); clear ho2 b3)
    | (go_at_call 75; (with_reducible refine HDL.out.mono ?_); rintro e w9 ⟨m9, rfl, hO9, hb9⟩; have HO9 := Lib.hid hO9; have HB9 := Lib.hid hb9; clear hO9 hb9))
  go_ret
  exact ⟨_, _, _, rfl, by unfold highI; rw [← HKA.out]; exact HO9.out.mono HB.out.size, HB.out.trans (HB9.out.mono HB.out.size)⟩
set_option maxRecDepth 100000 in
set_option maxHeartbeats 1000000 in
theorem pl_alone (A : Option Addr) (n c : Nat) (ns : List ND) (en tp level : Int) (w : World) (hg : PgAt w w.heap.size A n c ns) :
    Calls Try.prog 49 #[.agg (pgL A n c en tp), .int .i64 level] w (RetI (aloneI ns level) w) := by
  obtain ⟨w1, hw1⟩ : ∃ x, w.alloc (.cells (pgL A n c en tp) 56) = x := ⟨_, rfl⟩
  obtain ⟨C1, b1⟩ := box_plane hw1
  obtain ⟨w2, hw2⟩ : ∃ x, w1.alloc (.cells #[.int .i64 level] 3) = x := ⟨_, rfl⟩
  have b2 : Below w1.heap.size w1 w2 := by rw [← hw2]; exact bel_box _ _
  have K2 : Blk w2 w1.heap.size 3 #[.int .i64 level] := by rw [← hw2]; exact Blk.new _ _ _
  have C2 := C1.below b2 C1.lt
  have b12 := b1.trans (b2.mono b1.size)
  have HL := Lib.hid hg.len
  have hn := hg.2.1
  have GR := (hg.on b1 b1.size).on b2 b2.size
  have HHI := Lib.hid (pl_high A n c ns en tp level w2 GR)
  have HG := Lib.hid GR
  have HC := Lib.hid C2
  have HK := Lib.hid K2
  have HB := Lib.hid b12
  have LP := plane_load C2
  have cK := K2.cell 0
  clear hg C1 b1 GR b2 K2 C2 b12
  unfold pgL at hw1 HHI LP ⊢
  go_enter Try.func49, Try.ntmps49
  go_upto_region 1 with fail
  (try rw [hw1, hw2])
  clear hw1 hw2
  have cK' : w2.cell? ⟨w1.heap.size, 0, none⟩ = some (.int .i64 level) := cK
  clear cK
  go_wp2_with (first
    | refine wpList_loadE LP _ rfl rfl rfl ?_
    | (go_at_call 85; (with_reducible refine HHI.out.mono ?_); rintro e w3 ⟨A2, n2, c2, rfl, ho2, b3⟩;
       have HDL := Lib.hid (del_base w2 A2 n2 c2 (highI ns level) 86 #[.pointer (some ⟨w.heap.size, 0, none⟩), .pointer (some ⟨w1.heap.size, 0, none⟩)] (fun i => manyB ns level (ig (highI ns level) i)) w3 b3 (by have h1 := ho2.len; have h2 := highI_le ns level; have h3 := HL.out; omega)
         (enters_of Try.func86 (by kernel_rfl) rfl) ho2 (fun i W hi hW => al_cl A n c ns en tp level _ w.heap.size w1.heap.size W (HG.out.on hW hW.size) (HC.out.below hW HC.out.lt) ((HK.out.below hW HK.out.lt).cell 0)));
       have HKA := Lib.hid (ct_kept_all (manyB ns level) ho2.len); clear ho2 b3)
    | (go_at_call 75; (with_reducible refine HDL.out.mono ?_); rintro e w9 ⟨m9, rfl, hO9, hb9⟩; have HO9 := Lib.hid hO9; have HB9 := Lib.hid hb9; clear hO9 hb9))
  go_ret
  exact ⟨_, _, _, rfl, by unfold aloneI; rw [← HKA.out]; exact HO9.out.mono HB.out.size, HB.out.trans (HB9.out.mono HB.out.size)⟩
def keepB (ns : List ND) (level x : Int) : Bool := !manyB ns level x && !lowB ns level x
theorem alone_keep (ns : List ND) (level : Int) : aloneI ns level = (liveI ns).filter (keepB ns level) := by
  unfold aloneI highI; rw [List.filter_filter]; rfl
theorem filter_take (p : Int → Bool) {l : List Int} {j : Nat} (h : j < l.length) : (l.take (j + 1)).filter p = (l.take j).filter p ++ if p (ig l j) = true then [ig l j] else [] := by
  rw [take_step h, List.filter_append]
  congr 1
  cases hp : p (ig l j) <;> simp [hp]
set_option maxRecDepth 100000 in
set_option maxHeartbeats 2000000 in
theorem rf_alone (A : Option Addr) (n c : Nat) (ns : List ND) (en tp level : Int) (w : World) (hg : PgAt w w.heap.size A n c ns) :
    Calls Try.prog 50 #[.agg (pgL A n c en tp), .int .i64 level] w (RetI (aloneI ns level) w) := by
  obtain ⟨w1, hw1⟩ : ∃ x, w.alloc (.cells (pgL A n c en tp) 56) = x := ⟨_, rfl⟩
  obtain ⟨C1, b1⟩ := box_plane hw1
  have HL := Lib.hid hg.len
  have hn := hg.2.1
  have GR := hg.on b1 b1.size
  have HLV := Lib.hid (rf_live A n c ns en tp w1 GR)
  have HG := Lib.hid GR
  have HC := Lib.hid C1
  have HB := Lib.hid b1
  have LP := plane_load C1
  clear hg C1 b1 GR
  unfold pgL at hw1 HLV LP ⊢
  go_enter Try.func50, Try.ntmps50
  go_upto_region 1 with fail
  (try rw [hw1])
  clear hw1
  go_wp2_with (first
    | refine wpList_loadE LP _ rfl rfl rfl ?_
    | (go_at_call 28; (with_reducible refine HLV.out.mono ?_); rintro e w3 ⟨A2, n2, c2, rfl, ho2, b3⟩; have HO := Lib.hid ho2; have HOL := Lib.hid ho2.len; have HB3 := Lib.hid b3; clear ho2 b3))
  have hl2 : n2 ≤ 1048576 := by have h1 := HOL.out; have h2 := lvI_le ns ns.length; have h3 := HL.out; unfold liveI at h1; omega
  have HB03 := Lib.hid (HB.out.trans (HB3.out.mono HB.out.size))
  clear LP HLV
  go_loopw [5, 7, 11] (fun s5 _ s11 wr => ∃ (j m : Nat) (A' : Option Addr) (c' : Nat), j ≤ n2 ∧ m ≤ j ∧ s11 = .int .i64 j ∧ s5 = .slice A' m c' ∧ Hid (OwnI wr w3.heap.size A' m c' (((liveI ns).take j).filter (keepB ns level))) ∧ Hid (Below w3.heap.size w3 wr)) (fun _ _ s11 _ => n2 - (intOf s11).toNat)
  case atStart => exact ⟨0, 0, none, 0, Nat.zero_le _, Nat.zero_le _, rfl, rfl, Lib.hid (by exact OwnI.nil_ _ _), Lib.hid (Below.refl _ _)⟩
  case round =>
    obtain ⟨j, m, A', c', hj, hm, rfl, rfl, hor, hbr⟩ := hrel
    have hb := Lib.hid (HB3.out.trans (hbr.out.mono HB3.out.size))
    have HGW := Lib.hid (HG.out.on hb.out hb.out.size)
    have HCW := Lib.hid (HC.out.below hb.out HC.out.lt)
    by_cases hlj : j < n2
    · obtain ⟨b3, hA2, hb3, hb4, hx3⟩ := HO.out.cellY hlj
      have hx4 : wr.cell? ⟨b3, j, none⟩ = some (.int .i64 (ig (liveI ns) j)) := (hbr.out.cell (p := ⟨b3, j, none⟩) hb4).trans hx3
      have hxj : j < (liveI ns).length := by rw [HOL.out]; exact hlj
      have HFT := Lib.hid (filter_take (keepB ns level) hxj)
      subst hA2
      obtain ⟨k, hx, hkt, hkl⟩ := live_nat (ig_mem hxj)
      have hkn : k < n := by have h3 := HL.out; omega
      rw [hx] at hx4 HFT
      obtain ⟨b, o, rfl, HY⟩ := HGW.out.levY hkn
      have z3 := HY.out wr (Below.refl _ _)
      have z0 : wr.cell? ⟨w.heap.size, 0, none⟩ = some (.slice (some ⟨b, o, none⟩) n c) := HCW.out.cell 0
      have z1 : wr.cell? ⟨w.heap.size, 1, none⟩ = some (.int .i64 en) := HCW.out.cell 1
      have z2 : wr.cell? ⟨w.heap.size, 2, none⟩ = some (.int .i64 tp) := HCW.out.cell 2
      obtain ⟨d, hd, hdm⟩ := deg_nat HGW.out k level
      have HDG := rf_degree (some ⟨b, o, none⟩) n c ns en tp k level wr HGW.out
      rw [hd] at HDG
      have HMY : Hid (manyB ns level k = decide ((d : Int) > 0)) := by show _ = _; unfold manyB; rw [hd]
      have HLW : Hid (lowB ns level k = decide ((nAt ns k).level < level)) := by show _ = _; unfold lowB; rw [Int.toNat_natCast]
      obtain ⟨l, hl⟩ : ∃ l, (nAt ns k).level = l := ⟨_, rfl⟩
      rw [hl] at z3 HLW
      have LP := plane_load HCW.out
      clear hd hx hx3 hb3 hb4 HY hkt hl
      unfold pgL at LP HDG
      replace HDG := Lib.hid HDG
      cases hlw : decide (l ≥ level) with
      | false =>
        have HK : Hid (((liveI ns).take (j + 1)).filter (keepB ns level) = ((liveI ns).take j).filter (keepB ns level)) := by
          have h1 := of_decide_eq_false hlw
          have h2 : keepB ns level k = false := by unfold keepB; rw [HLW.out, decide_eq_true (by omega)]; simp
          show _ = _; rw [HFT.out, h2]; simp
        clear LP HDG HFT
        go_wp2_with fail
        go_roundw
        case rel => exact ⟨j + 1, m, A', c', by omega, by omega, by go_num, rfl, (by show OwnI _ _ _ _ _ _; rw [HK.out]; exact hor.out), hbr⟩
        case measure => simp [intOf]; omega
      | true =>
        by_cases hd0 : d = 0
        · subst hd0
          have HK : Hid (((liveI ns).take (j + 1)).filter (keepB ns level) = ((liveI ns).take j).filter (keepB ns level) ++ [(k : Int)]) := by
            have h1 := of_decide_eq_true hlw
            have h2 : keepB ns level k = true := by unfold keepB; rw [HLW.out, HMY.out, decide_eq_false (show ¬ l < level by omega)]; simp
            show _ = _; rw [HFT.out, h2]; simp
          clear HFT
          go_wp2_with (first
            | (go_at_call 44; (with_reducible refine HDG.out.mono ?_); rintro e w5 ⟨rfl, b5⟩; have HB5 := Lib.hid (hbr.out.trans (b5.mono hbr.out.size)); have hO5 := Lib.hid (hor.out.below b5); clear b5)
            | (at_builtin; refine wpList_push rfl (.tmp 30) (.tmp 32) _ rfl w3.heap.size 3 .i64 8 (by decide) Try.underlying35 info_int w5 A' m c' (((liveI ns).take j).filter (keepB ns level)) _ rfl hO5.out rfl (by omega) HB5.out.size ?_; intro g' c'' w6 ho6 hb6))
          have HO6 : Hid (OwnI w6 w3.heap.size (some ⟨g', 0, none⟩) (m + 1) c'' (((liveI ns).take (j + 1)).filter (keepB ns level))) := by show OwnI _ _ _ _ _ _; rw [HK.out]; exact ho6
          have HB6 := Lib.hid (HB5.out.trans hb6)
          clear ho6 hb6 HB5 hO5 hor hbr LP HDG z0 z1 z2 z3
          go_roundw
          case rel => exact ⟨j + 1, m + 1, some ⟨g', 0, none⟩, c'', by omega, by omega, by go_num, rfl, HO6, HB6⟩
          case measure => simp [intOf]; omega
        · have hd1 : ((d : Int) == 0) = false := beq_false_of_ne (by omega)
          have HK : Hid (((liveI ns).take (j + 1)).filter (keepB ns level) = ((liveI ns).take j).filter (keepB ns level)) := by
            have h2 : keepB ns level k = false := by unfold keepB; rw [HMY.out, decide_eq_true (show (d : Int) > 0 by omega)]; simp
            show _ = _; rw [HFT.out, h2]; simp
          clear HFT
          go_wp2_with (go_at_call 44; (with_reducible refine HDG.out.mono ?_); rintro e w5 ⟨rfl, b5⟩; have HB5 := Lib.hid (hbr.out.trans (b5.mono hbr.out.size)); have hO5 := Lib.hid (hor.out.below b5); clear b5)
          go_roundw
          case rel => exact ⟨j + 1, m, A', c', by omega, by omega, by go_num, rfl, (by show OwnI _ _ _ _ _ _; rw [HK.out]; exact hO5.out), HB5⟩
          case measure => simp [intOf]; omega
    · obtain rfl : j = n2 := by omega
      have hfin : Hid (aloneI ns level = ((liveI ns).take j).filter (keepB ns level)) := by
        show _ = _
        rw [alone_keep, List.take_of_length_le (by rw [HOL.out]; exact Nat.le_refl _)]
      have HR := Lib.hid (hor.out.mono HB03.out.size)
      have HBB := Lib.hid (HB03.out.trans (hbr.out.mono HB03.out.size))
      clear HGW HCW hb hor hbr
      go_wp2_with fail
      go_ret
      exact ⟨_, _, _, rfl, by rw [hfin.out]; exact HR.out, HBB.out⟩
def bumpL (cs : List Int) (l : Int) : List Int := if 0 ≤ l ∧ l < 8 then cs.set l.toNat (ig cs l.toNat + 1) else cs
def lvlF (ns : List ND) (cs : List Int) (x : Int) : List Int := bumpL cs (nAt ns x.toNat).level
def lvlsI (ns : List ND) : List Int := (liveI ns).foldl (lvlF ns) (List.replicate 8 0)
def rowI (cs : List Int) : Array Value := (cs.map (Value.int .i64)).toArray
theorem rowI_size (cs : List Int) : (rowI cs).size = cs.length := by simp [rowI]
theorem rowI_one (cs : List Int) : (rowI cs).all (·.oneCell') = true := by simp [rowI, Value.oneCell']
theorem rowI_set (cs : List Int) (i : Nat) (v : Int) : (rowI cs).setIfInBounds i (.int .i64 v) = rowI (cs.set i v) := by
  unfold rowI; apply Array.ext'; simp [List.map_set]
theorem rowI_get {cs : List Int} {i : Nat} (h : i < cs.length) : (rowI cs)[i]? = some (.int .i64 (ig cs i)) := by
  unfold rowI ig
  rw [List.getElem?_toArray, List.getElem?_map, List.getD_eq_getElem?_getD, List.getElem?_eq_getElem h]; rfl
theorem ig_setO {cs : List Int} (i k : Nat) (v : Int) : ig (cs.set i v) k = v ∨ ig (cs.set i v) k = ig cs k := by
  by_cases e : i = k
  · by_cases hk : k < cs.length
    · left; subst e; unfold ig; rw [List.getD_eq_getElem?_getD, List.getElem?_set, if_pos rfl, if_pos hk]; rfl
    · right; unfold ig; rw [List.getD_eq_getElem?_getD, List.getD_eq_getElem?_getD, List.getElem?_eq_none (by simp; omega), List.getElem?_eq_none (by omega)]
  · right; exact ig_set_ne e
theorem lv8T : (Try.prog.info? 77).map (·.size) = some 8 := by kernel_rfl
def RetL8 (cs : List Int) (w : World) (e : Ending) (w' : World) : Prop := e = .returned (.agg (rowI cs)) ∧ Below w.heap.size w w'
set_option maxRecDepth 100000 in
set_option maxHeartbeats 2000000 in
theorem pl_levels (A : Option Addr) (n c : Nat) (ns : List ND) (en tp : Int) (w : World) (hg : PgAt w w.heap.size A n c ns) :
    Calls Try.prog 41 #[.agg (pgL A n c en tp)] w (RetL8 (lvlsI ns) w) := by
  obtain ⟨w1, hw1⟩ : ∃ x, w.alloc (.cells (pgL A n c en tp) 56) = x := ⟨_, rfl⟩
  obtain ⟨C1, b1⟩ := box_plane hw1
  obtain ⟨w2, hw2⟩ : ∃ x, w1.alloc (.cells (rowI (List.replicate 8 0)) 77) = x := ⟨_, rfl⟩
  have b2 : Below w1.heap.size w1 w2 := by rw [← hw2]; exact bel_box _ _
  have K2 : Blk w2 w1.heap.size 77 (rowI (List.replicate 8 0)) := by rw [← hw2]; exact Blk.new _ _ _
  obtain ⟨w3, hw3⟩ : ∃ x, w2.alloc (.cells (rowI (List.replicate 8 0)) 77) = x := ⟨_, rfl⟩
  have b3 : Below w2.heap.size w2 w3 := by rw [← hw3]; exact bel_box _ _
  have K3 : Blk w3 w2.heap.size 77 (rowI (List.replicate 8 0)) := by rw [← hw3]; exact Blk.new _ _ _
  have hs12 := b2.size
  have hl2 : w1.heap.size < w2.heap.size := K2.lt
  have hl3 : w2.heap.size < w3.heap.size := K3.lt
  have b13 := b2.trans (b3.mono b2.size)
  have HL := Lib.hid hg.len
  have hn := hg.2.1
  have GR := (hg.on b1 b1.size).on b13 b13.size
  have C3 := C1.below b13 C1.lt
  have HLV := Lib.hid (pl_live A n c ns en tp w3 GR)
  have HG1 := Lib.hid ((hg.on b1 b1.size).below b13)
  have HC := Lib.hid C3
  have HB := Lib.hid (b1.trans (b13.mono b1.size))
  have HK2 := Lib.hid (K2.below b3 K2.lt)
  have HK3 := Lib.hid K3
  have LP := plane_load C3
  have hs1 := C1.lt
  clear hg C1 b1 GR b2 b3 K2 K3 C3 b13
  unfold pgL at hw1 HLV LP ⊢
  have e8 : rowI (List.replicate 8 0) = #[.int .i64 0, .int .i64 0, .int .i64 0, .int .i64 0, .int .i64 0, .int .i64 0, .int .i64 0, .int .i64 0] := by kernel_rfl
  rw [e8] at hw2 hw3
  clear e8
  go_enter Try.func41, Try.ntmps41
  go_upto_region 2 with fail
  (try rw [hw1, hw2, hw3])
  clear hw1 hw2 hw3
  go_wp2_with (first
    | refine wpList_loadE LP _ rfl rfl rfl ?_
    | (go_at_call 27; (with_reducible refine HLV.out.mono ?_); rintro e w4 ⟨A2, n2, c2, rfl, ho2, b4⟩; have HO := Lib.hid ho2; have HOL := Lib.hid ho2.len; have HB4 := Lib.hid b4; have HK34 := Lib.hid (HK3.out.below b4 HK3.out.lt); clear ho2 b4))
  have hn2 : n2 ≤ 1048576 := by have h1 := HOL.out; have h2 := lvI_le ns ns.length; have h3 := HL.out; unfold liveI at h1; omega
  have hs4 := HB4.out.size
  clear LP HLV HK3
  go_loopw [5, 6, 10] (fun _ _ s10 wr => ∃ (j : Nat) (cs : List Int), j ≤ n2 ∧ s10 = .int .i64 j ∧ cs.length = 8 ∧ Hid (∀ i, 0 ≤ ig cs i ∧ ig cs i ≤ j) ∧ Hid (((liveI ns).take j).foldl (lvlF ns) (List.replicate 8 0) = cs) ∧ Hid (Blk wr w2.heap.size 77 (rowI cs)) ∧ Hid (Tch (fun g => g = w2.heap.size) w4 wr)) (fun _ _ s10 _ => n2 - (intOf s10).toNat)
  case atStart => exact ⟨0, List.replicate 8 0, Nat.zero_le _, rfl, rfl, Lib.hid (by intro i; unfold ig; rw [List.getD_eq_getElem?_getD, List.getElem?_replicate]; split <;> simp), Lib.hid (by show _ = _; simp), HK34, Lib.hid (Tch.refl _ _)⟩
  case round =>
    obtain ⟨j, cs, hj, rfl, hcl, hbd, hfr, hbk, ht⟩ := hrel
    have hbw : Below w2.heap.size w4 wr := ht.out.below (by omega) (by rintro k rfl; exact Nat.le_refl _)
    have hb0 : Below w2.heap.size w3 wr := (HB4.out.mono (by omega)).trans hbw
    have hb1 := Lib.hid (hb0.mono (B' := w1.heap.size) (by omega))
    have HGW := Lib.hid ((HG1.out.below hb1.out).more (show w1.heap.size ≤ wr.heap.size by have := ht.out.size; omega))
    have HCW := Lib.hid (HC.out.below hb1.out hs1)
    have HK2W := Lib.hid (HK2.out.below hb0 hl2)
    clear hbw hb0
    by_cases hlj : j < n2
    · obtain ⟨g3, hA2, hg3, hg4, hx3⟩ := HO.out.cellY hlj
      have hx4 : wr.cell? ⟨g3, j, none⟩ = some (.int .i64 (ig (liveI ns) j)) := (ht.out.cell (p := ⟨g3, j, none⟩) hg4 (by show ¬ g3 = _; omega)).trans hx3
      have hxj : j < (liveI ns).length := by rw [HOL.out]; exact hlj
      have hfo := fold_take (lvlF ns) (List.replicate 8 0) hxj
      rw [hfr.out] at hfo
      subst hA2
      obtain ⟨k, hx, hkt, hkl⟩ := live_nat (ig_mem hxj)
      have hkn : k < n := by have h3 := HL.out; omega
      rw [hx] at hx4 hfo
      obtain ⟨b, o, rfl, HY⟩ := HGW.out.levY hkn
      have z3 := HY.out wr (Below.refl _ _)
      have z0 : wr.cell? ⟨w.heap.size, 0, none⟩ = some (.slice (some ⟨b, o, none⟩) n c) := HCW.out.cell 0
      obtain ⟨l, hl⟩ : ∃ l, (nAt ns k).level = l := ⟨_, rfl⟩
      have hfo' : ((liveI ns).take (j + 1)).foldl (lvlF ns) (List.replicate 8 0) = bumpL cs l := by rw [hfo]; unfold lvlF; rw [Int.toNat_natCast, hl]
      rw [hl] at z3
      clear hfo hx hx3 hg3 hg4 HY hkt hl
      by_cases hl0 : 0 ≤ l
      · obtain ⟨i, rfl⟩ : ∃ i : Nat, l = i := ⟨l.toNat, by omega⟩
        by_cases hl8 : i < 8
        · obtain ⟨v, hv⟩ : ∃ v, ig cs i = v := ⟨_, rfl⟩
          have hbi := hbd.out i
          rw [hv] at hbi
          obtain ⟨vn, rfl⟩ : ∃ vn : Nat, v = vn := ⟨v.toNat, by omega⟩
          have hvn : vn ≤ 1048576 := by omega
          have cv : wr.cell? ⟨w2.heap.size, i, none⟩ = some (.int .i64 (vn : Int)) := by rw [hbk.out.cell, rowI_get (by omega), hv]
          have cf := hbk.out.frozen i
          have t1 : decide ((i : Int) ≤ 7) = true := decide_eq_true (by omega)
          have HF : Hid (((liveI ns).take (j + 1)).foldl (lvlF ns) (List.replicate 8 0) = cs.set i ((vn : Int) + 1)) := by
            show _ = _; rw [hfo']; unfold bumpL; rw [if_pos (by omega), Int.toNat_natCast, hv]
          have HBK : Hid (Blk (wr.setCell ⟨w2.heap.size, i, none⟩ (.int .i64 ((vn : Int) + 1))) w2.heap.size 77 (rowI (cs.set i ((vn : Int) + 1)))) := by
            have := hbk.out.set_ i (.int .i64 ((vn : Int) + 1)); rw [rowI_set] at this; exact this
          have HT : Hid (Tch (fun g => g = w2.heap.size) w4 (wr.setCell ⟨w2.heap.size, i, none⟩ (.int .i64 ((vn : Int) + 1)))) := ht.out.setCell rfl _ _
          have HBD : Hid (∀ q, 0 ≤ ig (cs.set i ((vn : Int) + 1)) q ∧ ig (cs.set i ((vn : Int) + 1)) q ≤ ((j + 1 : Nat) : Int)) := by
            intro q
            have h1 := hbd.out q
            rcases ig_setO i q ((vn : Int) + 1) (cs := cs) with h | h <;> rw [h] <;> omega
          clear hfo' hv hbd hbk ht hfr HGW HCW HK2W hb1 hbi hl0
          go_wp2_with fail
          go_roundw
          case rel => exact ⟨j + 1, cs.set i ((vn : Int) + 1), by omega, by go_num, by simpa using hcl, HBD, HF, HBK, HT⟩
          case measure => simp [intOf]; omega
        · have t1 : decide ((i : Int) ≤ 7) = false := decide_eq_false (by omega)
          have HF : Hid (((liveI ns).take (j + 1)).foldl (lvlF ns) (List.replicate 8 0) = cs) := by
            show _ = _; rw [hfo']; unfold bumpL; rw [if_neg (by omega)]
          have HBD : Hid (∀ q, 0 ≤ ig cs q ∧ ig cs q ≤ ((j + 1 : Nat) : Int)) := fun q => by have h1 := hbd.out q; omega
          clear hfo' hbd hfr HGW HCW HK2W hb1 hl0
          go_wp2_with fail
          go_roundw
          case rel => exact ⟨j + 1, cs, by omega, by go_num, hcl, HBD, HF, hbk, ht⟩
          case measure => simp [intOf]; omega
      · have t1 : decide (l ≥ 0) = false := decide_eq_false (by omega)
        have HF : Hid (((liveI ns).take (j + 1)).foldl (lvlF ns) (List.replicate 8 0) = cs) := by
          show _ = _; rw [hfo']; unfold bumpL; rw [if_neg (by omega)]
        have HBD : Hid (∀ q, 0 ≤ ig cs q ∧ ig cs q ≤ ((j + 1 : Nat) : Int)) := fun q => by have h1 := hbd.out q; omega
        clear hfo' hbd hfr HGW HCW HK2W hb1 hl0
        go_wp2_with fail
        go_roundw
        case rel => exact ⟨j + 1, cs, by omega, by go_num, hcl, HBD, HF, hbk, ht⟩
        case measure => simp [intOf]; omega
    · obtain rfl : j = n2 := by omega
      have hfin : Hid (lvlsI ns = cs) := by
        show _ = _
        have h1 := hfr.out
        rw [List.take_of_length_le (by rw [HOL.out]; exact Nat.le_refl _)] at h1
        exact h1
      have LA : (Instr.loadAt 77 (.pointer (some ⟨w2.heap.size, 0, none⟩))).run Try.prog wr = .ok (.agg (rowI cs)) wr := row_load hbk.out Try.underlying77 rfl (by rw [rowI_size, hcl]; exact lv8T)
      have SA := row_store HK2W.out (rowI cs) (by rw [rowI_size, rowI_size, hcl]; rfl) (P := Try.prog) (ty := 77) (by rw [rowI_size, hcl]; exact lv8T) (rowI_one cs)
      have KF : Blk (wr.setCells w1.heap.size 0 (rowI cs).toList) w1.heap.size 77 (rowI cs) := by have h1 := Blk.put HK2W.out (rowI cs).toList (by rw [Array.length_toList, rowI_size, rowI_size, hcl]; rfl); rwa [Array.toArray_toList] at h1
      have BF : Below w.heap.size wr (wr.setCells w1.heap.size 0 (rowI cs).toList) := below_setCells (Below.refl _ _) (by have := ht.out.size; have := HB.out.size; omega) (by omega) _ _
      obtain ⟨w9, hw9⟩ : ∃ x, wr.setCells w1.heap.size 0 (rowI cs).toList = x := ⟨_, rfl⟩
      rw [hw9] at SA KF BF
      have HKF := Lib.hid KF
      have HBF := Lib.hid ((HB.out.trans (hb1.out.mono (by omega))).trans BF)
      clear hfr HGW HCW hb1 hbk ht hbd HK2W KF BF hw9
      go_wp2_with (first | refine wpList_loadE LA _ rfl rfl rfl ?_ | refine wpList_storeE SA _ _ rfl rfl rfl rfl ?_)
      refine bodyPost_ret (v := .agg (rowI cs)) ?_ rfl ⟨by rw [hfin.out], HBF.out⟩
      exact results_cell_row Try.results41 _ _ w1.heap.size 77 _ (0, 0) _ rfl HKF.out Try.underlying77 rfl (by rw [rowI_size, hcl]; exact lv8T)
set_option maxRecDepth 100000 in
set_option maxHeartbeats 2000000 in
theorem rf_levels (A : Option Addr) (n c : Nat) (ns : List ND) (en tp : Int) (w : World) (hg : PgAt w w.heap.size A n c ns) :
    Calls Try.prog 42 #[.agg (pgL A n c en tp)] w (RetL8 (lvlsI ns) w) := by
  obtain ⟨w1, hw1⟩ : ∃ x, w.alloc (.cells (pgL A n c en tp) 56) = x := ⟨_, rfl⟩
  obtain ⟨C1, b1⟩ := box_plane hw1
  obtain ⟨w2, hw2⟩ : ∃ x, w1.alloc (.cells (rowI (List.replicate 8 0)) 77) = x := ⟨_, rfl⟩
  have b2 : Below w1.heap.size w1 w2 := by rw [← hw2]; exact bel_box _ _
  have K2 : Blk w2 w1.heap.size 77 (rowI (List.replicate 8 0)) := by rw [← hw2]; exact Blk.new _ _ _
  obtain ⟨w3, hw3⟩ : ∃ x, w2.alloc (.cells (rowI (List.replicate 8 0)) 77) = x := ⟨_, rfl⟩
  have b3 : Below w2.heap.size w2 w3 := by rw [← hw3]; exact bel_box _ _
  have K3 : Blk w3 w2.heap.size 77 (rowI (List.replicate 8 0)) := by rw [← hw3]; exact Blk.new _ _ _
  have hs12 := b2.size
  have hl2 : w1.heap.size < w2.heap.size := K2.lt
  have hl3 : w2.heap.size < w3.heap.size := K3.lt
  have b13 := b2.trans (b3.mono b2.size)
  have HL := Lib.hid hg.len
  have hn := hg.2.1
  have GR := (hg.on b1 b1.size).on b13 b13.size
  have C3 := C1.below b13 C1.lt
  have HLV := Lib.hid (rf_live A n c ns en tp w3 GR)
  have HG1 := Lib.hid ((hg.on b1 b1.size).below b13)
  have HC := Lib.hid C3
  have HB := Lib.hid (b1.trans (b13.mono b1.size))
  have HK2 := Lib.hid (K2.below b3 K2.lt)
  have HK3 := Lib.hid K3
  have LP := plane_load C3
  have hs1 := C1.lt
  clear hg C1 b1 GR b2 b3 K2 K3 C3 b13
  unfold pgL at hw1 HLV LP ⊢
  have e8 : rowI (List.replicate 8 0) = #[.int .i64 0, .int .i64 0, .int .i64 0, .int .i64 0, .int .i64 0, .int .i64 0, .int .i64 0, .int .i64 0] := by kernel_rfl
  rw [e8] at hw2 hw3
  clear e8
  go_enter Try.func42, Try.ntmps42
  go_upto_region 2 with fail
  (try rw [hw1, hw2, hw3])
  clear hw1 hw2 hw3
  go_wp2_with (first
    | refine wpList_loadE LP _ rfl rfl rfl ?_
    | (go_at_call 28; (with_reducible refine HLV.out.mono ?_); rintro e w4 ⟨A2, n2, c2, rfl, ho2, b4⟩; have HO := Lib.hid ho2; have HOL := Lib.hid ho2.len; have HB4 := Lib.hid b4; have HK34 := Lib.hid (HK3.out.below b4 HK3.out.lt); clear ho2 b4))
  have hn2 : n2 ≤ 1048576 := by have h1 := HOL.out; have h2 := lvI_le ns ns.length; have h3 := HL.out; unfold liveI at h1; omega
  have hs4 := HB4.out.size
  clear LP HLV HK3
  go_loopw [5, 6, 10] (fun _ _ s10 wr => ∃ (j : Nat) (cs : List Int), j ≤ n2 ∧ s10 = .int .i64 j ∧ cs.length = 8 ∧ Hid (∀ i, 0 ≤ ig cs i ∧ ig cs i ≤ j) ∧ Hid (((liveI ns).take j).foldl (lvlF ns) (List.replicate 8 0) = cs) ∧ Hid (Blk wr w2.heap.size 77 (rowI cs)) ∧ Hid (Tch (fun g => g = w2.heap.size) w4 wr)) (fun _ _ s10 _ => n2 - (intOf s10).toNat)
  case atStart => exact ⟨0, List.replicate 8 0, Nat.zero_le _, rfl, rfl, Lib.hid (by intro i; unfold ig; rw [List.getD_eq_getElem?_getD, List.getElem?_replicate]; split <;> simp), Lib.hid (by show _ = _; simp), HK34, Lib.hid (Tch.refl _ _)⟩
  case round =>
    obtain ⟨j, cs, hj, rfl, hcl, hbd, hfr, hbk, ht⟩ := hrel
    have hbw : Below w2.heap.size w4 wr := ht.out.below (by omega) (by rintro k rfl; exact Nat.le_refl _)
    have hb0 : Below w2.heap.size w3 wr := (HB4.out.mono (by omega)).trans hbw
    have hb1 := Lib.hid (hb0.mono (B' := w1.heap.size) (by omega))
    have HGW := Lib.hid ((HG1.out.below hb1.out).more (show w1.heap.size ≤ wr.heap.size by have := ht.out.size; omega))
    have HCW := Lib.hid (HC.out.below hb1.out hs1)
    have HK2W := Lib.hid (HK2.out.below hb0 hl2)
    clear hbw hb0
    by_cases hlj : j < n2
    · obtain ⟨g3, hA2, hg3, hg4, hx3⟩ := HO.out.cellY hlj
      have hx4 : wr.cell? ⟨g3, j, none⟩ = some (.int .i64 (ig (liveI ns) j)) := (ht.out.cell (p := ⟨g3, j, none⟩) hg4 (by show ¬ g3 = _; omega)).trans hx3
      have hxj : j < (liveI ns).length := by rw [HOL.out]; exact hlj
      have hfo := fold_take (lvlF ns) (List.replicate 8 0) hxj
      rw [hfr.out] at hfo
      subst hA2
      obtain ⟨k, hx, hkt, hkl⟩ := live_nat (ig_mem hxj)
      have hkn : k < n := by have h3 := HL.out; omega
      rw [hx] at hx4 hfo
      obtain ⟨b, o, rfl, HY⟩ := HGW.out.levY hkn
      have z3 := HY.out wr (Below.refl _ _)
      have z0 : wr.cell? ⟨w.heap.size, 0, none⟩ = some (.slice (some ⟨b, o, none⟩) n c) := HCW.out.cell 0
      obtain ⟨l, hl⟩ : ∃ l, (nAt ns k).level = l := ⟨_, rfl⟩
      have hfo' : ((liveI ns).take (j + 1)).foldl (lvlF ns) (List.replicate 8 0) = bumpL cs l := by rw [hfo]; unfold lvlF; rw [Int.toNat_natCast, hl]
      rw [hl] at z3
      clear hfo hx hx3 hg3 hg4 HY hkt hl
      by_cases hl0 : 0 ≤ l
      · obtain ⟨i, rfl⟩ : ∃ i : Nat, l = i := ⟨l.toNat, by omega⟩
        by_cases hl8 : i < 8
        · obtain ⟨v, hv⟩ : ∃ v, ig cs i = v := ⟨_, rfl⟩
          have hbi := hbd.out i
          rw [hv] at hbi
          obtain ⟨vn, rfl⟩ : ∃ vn : Nat, v = vn := ⟨v.toNat, by omega⟩
          have hvn : vn ≤ 1048576 := by omega
          have cv : wr.cell? ⟨w2.heap.size, i, none⟩ = some (.int .i64 (vn : Int)) := by rw [hbk.out.cell, rowI_get (by omega), hv]
          have cf := hbk.out.frozen i
          have t1 : decide ((i : Int) < 8) = true := decide_eq_true (by omega)
          have HF : Hid (((liveI ns).take (j + 1)).foldl (lvlF ns) (List.replicate 8 0) = cs.set i ((vn : Int) + 1)) := by
            show _ = _; rw [hfo']; unfold bumpL; rw [if_pos (by omega), Int.toNat_natCast, hv]
          have HBK : Hid (Blk (wr.setCell ⟨w2.heap.size, i, none⟩ (.int .i64 ((vn : Int) + 1))) w2.heap.size 77 (rowI (cs.set i ((vn : Int) + 1)))) := by
            have := hbk.out.set_ i (.int .i64 ((vn : Int) + 1)); rw [rowI_set] at this; exact this
          have HT : Hid (Tch (fun g => g = w2.heap.size) w4 (wr.setCell ⟨w2.heap.size, i, none⟩ (.int .i64 ((vn : Int) + 1)))) := ht.out.setCell rfl _ _
          have HBD : Hid (∀ q, 0 ≤ ig (cs.set i ((vn : Int) + 1)) q ∧ ig (cs.set i ((vn : Int) + 1)) q ≤ ((j + 1 : Nat) : Int)) := by
            intro q
            have h1 := hbd.out q
            rcases ig_setO i q ((vn : Int) + 1) (cs := cs) with h | h <;> rw [h] <;> omega
          clear hfo' hv hbd hbk ht hfr HGW HCW HK2W hb1 hbi hl0
          go_wp2_with fail
          go_roundw
          case rel => exact ⟨j + 1, cs.set i ((vn : Int) + 1), by omega, by go_num, by simpa using hcl, HBD, HF, HBK, HT⟩
          case measure => simp [intOf]; omega
        · have t1 : decide ((i : Int) < 8) = false := decide_eq_false (by omega)
          have HF : Hid (((liveI ns).take (j + 1)).foldl (lvlF ns) (List.replicate 8 0) = cs) := by
            show _ = _; rw [hfo']; unfold bumpL; rw [if_neg (by omega)]
          have HBD : Hid (∀ q, 0 ≤ ig cs q ∧ ig cs q ≤ ((j + 1 : Nat) : Int)) := fun q => by have h1 := hbd.out q; omega
          clear hfo' hbd hfr HGW HCW HK2W hb1 hl0
          go_wp2_with fail
          go_roundw
          case rel => exact ⟨j + 1, cs, by omega, by go_num, hcl, HBD, HF, hbk, ht⟩
          case measure => simp [intOf]; omega
      · have t1 : decide (l ≥ 0) = false := decide_eq_false (by omega)
        have HF : Hid (((liveI ns).take (j + 1)).foldl (lvlF ns) (List.replicate 8 0) = cs) := by
          show _ = _; rw [hfo']; unfold bumpL; rw [if_neg (by omega)]
        have HBD : Hid (∀ q, 0 ≤ ig cs q ∧ ig cs q ≤ ((j + 1 : Nat) : Int)) := fun q => by have h1 := hbd.out q; omega
        clear hfo' hbd hfr HGW HCW HK2W hb1 hl0
        go_wp2_with fail
        go_roundw
        case rel => exact ⟨j + 1, cs, by omega, by go_num, hcl, HBD, HF, hbk, ht⟩
        case measure => simp [intOf]; omega
    · obtain rfl : j = n2 := by omega
      have hfin : Hid (lvlsI ns = cs) := by
        show _ = _
        have h1 := hfr.out
        rw [List.take_of_length_le (by rw [HOL.out]; exact Nat.le_refl _)] at h1
        exact h1
      have LA : (Instr.loadAt 77 (.pointer (some ⟨w2.heap.size, 0, none⟩))).run Try.prog wr = .ok (.agg (rowI cs)) wr := row_load hbk.out Try.underlying77 rfl (by rw [rowI_size, hcl]; exact lv8T)
      have SA := row_store HK2W.out (rowI cs) (by rw [rowI_size, rowI_size, hcl]; rfl) (P := Try.prog) (ty := 77) (by rw [rowI_size, hcl]; exact lv8T) (rowI_one cs)
      have KF : Blk (wr.setCells w1.heap.size 0 (rowI cs).toList) w1.heap.size 77 (rowI cs) := by have h1 := Blk.put HK2W.out (rowI cs).toList (by rw [Array.length_toList, rowI_size, rowI_size, hcl]; rfl); rwa [Array.toArray_toList] at h1
      have BF : Below w.heap.size wr (wr.setCells w1.heap.size 0 (rowI cs).toList) := below_setCells (Below.refl _ _) (by have := ht.out.size; have := HB.out.size; omega) (by omega) _ _
      obtain ⟨w9, hw9⟩ : ∃ x, wr.setCells w1.heap.size 0 (rowI cs).toList = x := ⟨_, rfl⟩
      rw [hw9] at SA KF BF
      have HKF := Lib.hid KF
      have HBF := Lib.hid ((HB.out.trans (hb1.out.mono (by omega))).trans BF)
      clear hfr HGW HCW hb1 hbk ht hbd HK2W KF BF hw9
      go_wp2_with (first | refine wpList_loadE LA _ rfl rfl rfl ?_ | refine wpList_storeE SA _ _ rfl rfl rfl rfl ?_)
      refine bodyPost_ret (v := .agg (rowI cs)) ?_ rfl ⟨by rw [hfin.out], HBF.out⟩
      exact results_cell_row Try.results42 _ _ w1.heap.size 77 _ (0, 0) _ rfl HKF.out Try.underlying77 rfl (by rw [rowI_size, hcl]; exact lv8T)
theorem IBc.made (w : World) (q : Nat) : IBc (w.alloc (.cells (madeCells #[.int .i64 0] q) 3)) w.heap.size q (List.replicate q 0) := by
  obtain ⟨rest, hr⟩ := IB.made w 3 q .i64
  refine ⟨rest, hr, ?_⟩
  rw [heap_alloc_new] at hr
  injection hr with hr
  injection hr with hr
  have h1 := congrArg Array.size hr
  simp [madeCells] at h1
  simpa using h1.symm
def placeD (ns : List ND) (level : Int) (q : Nat) (x : Int) : Nat := (min (degI ns x level) ((q : Int) - 1)).toNat
def dgsF (ns : List ND) (level : Int) (q : Nat) (cs : List Int) (x : Int) : List Int := cs.set (placeD ns level q x) (ig cs (placeD ns level q x) + 1)
def dgsG (ns : List ND) (level : Int) (q : Nat) (cs : List Int) (x : Int) : List Int := if lowB ns level x = true then cs else dgsF ns level q cs x
def dgsI (ns : List ND) (level most : Int) : List Int := if most < 0 then [] else (highI ns level).foldl (dgsF ns level (min most 4096 + 1).toNat) (List.replicate (min most 4096 + 1).toNat 0)
theorem dgs_doc (ns : List ND) (level : Int) (q : Nat) (cs : List Int) : (highI ns level).foldl (dgsF ns level q) cs = (liveI ns).foldl (dgsG ns level q) cs := by
  unfold highI
  rw [List.foldl_filter]
  congr 1
  funext a x
  unfold dgsG
  cases lowB ns level x <;> simp
set_option maxRecDepth 100000 in
set_option maxHeartbeats 2000000 in
theorem pl_degrees (A : Option Addr) (n c : Nat) (ns : List ND) (en tp level most : Int) (w : World) (hg : PgAt w w.heap.size A n c ns) :
    Calls Try.prog 47 #[.agg (pgL A n c en tp), .int .i64 level, .int .i64 most] w (RetI (dgsI ns level most) w) := by
  obtain ⟨w1, hw1⟩ : ∃ x, w.alloc (.cells (pgL A n c en tp) 56) = x := ⟨_, rfl⟩
  obtain ⟨C1, b1⟩ := box_plane hw1
  by_cases hm0 : most < 0
  · have HR : Hid (dgsI ns level most = []) := by show _ = _; unfold dgsI; rw [if_pos hm0]
    have t0 : decide (most < 0) = true := decide_eq_true hm0
    have HB := Lib.hid b1
    clear hg C1 b1 hm0
    unfold pgL at hw1 ⊢
    go_enter Try.func47, Try.ntmps47
    go_upto_region 1 with fail
    (try rw [hw1])
    clear hw1
    go_wp2_with fail
    go_ret
    exact ⟨_, _, _, rfl, by rw [HR.out]; exact OwnI.nil_ _ _, HB.out⟩
  have hm1 : 0 ≤ most := by omega
  have t0 : decide (most < 0) = false := decide_eq_false hm0
  obtain ⟨q, hq⟩ : ∃ q : Nat, min most 4096 + 1 = (q : Int) := ⟨(min most 4096 + 1).toNat, by omega⟩
  have hq1 : 1 ≤ q := by omega
  have hq2 : q ≤ 4097 := by omega
  have HR : Hid (dgsI ns level most = (highI ns level).foldl (dgsF ns level q) (List.replicate q 0)) := by show _ = _; unfold dgsI; rw [if_neg hm0, hq, Int.toNat_natCast]
  have hmk := fun (kl kc : IntKind) => run_make_row' (P := Try.prog) 35 3 (.int .i64 0) 8 Try.underlying35 info_int rfl kl kc q (by omega) (by omega)
  obtain ⟨w2, hw2⟩ : ∃ x, w1.alloc (.cells (madeCells #[.int .i64 0] q) 3) = x := ⟨_, rfl⟩
  have b2 : Below w1.heap.size w1 w2 := by rw [← hw2]; exact bel_box _ _
  have K2 : IBc w2 w1.heap.size q (List.replicate q 0) := by rw [← hw2]; exact IBc.made _ _
  have hl2 : w1.heap.size < w2.heap.size := K2.ib.lt
  have hs1 := C1.lt
  have HL := Lib.hid hg.len
  have hn := hg.2.1
  have GR := (hg.on b1 b1.size).on b2 b2.size
  have C2 := C1.below b2 C1.lt
  have HLV := Lib.hid (pl_high A n c ns en tp level w2 GR)
  have HG1 := Lib.hid ((hg.on b1 b1.size).below b2)
  have HC := Lib.hid C2
  have HB := Lib.hid (b1.trans (b2.mono b1.size))
  have HK := Lib.hid K2
  have LP := plane_load C2
  clear hg C1 b1 GR b2 K2 C2 hm0
  unfold pgL at hw1 HLV LP ⊢
  go_enter Try.func47, Try.ntmps47
  go_upto_region 1 with fail
  (try rw [hw1])
  clear hw1
  go_upto_region 4 with fail
  (try rw [hw2])
  clear hw2 hmk hq
  go_wp2_with (first
    | refine wpList_loadE LP _ rfl rfl rfl ?_
    | (go_at_call 85; (with_reducible refine HLV.out.mono ?_); rintro e w3 ⟨A2, n2, c2, rfl, ho2, b3⟩; have HO := Lib.hid ho2; have HOL := Lib.hid ho2.len; have HB3 := Lib.hid b3; have HK3 := Lib.hid (HK.out.at_ (b3.block _ HK.out.ib.lt)); clear ho2 b3))
  have hn2 : n2 ≤ 1048576 := by have h1 := HOL.out; have h2 := highI_le ns level; have h3 := HL.out; omega
  have hs3 := HB3.out.size
  clear LP HLV HK
  go_loopw [9, 20] (fun _ s20 wr => ∃ (j : Nat) (cs : List Int), j ≤ n2 ∧ s20 = .int .i64 j ∧ cs.length = q ∧ Hid (∀ z, 0 ≤ ig cs z ∧ ig cs z ≤ j) ∧ Hid (((highI ns level).take j).foldl (dgsF ns level q) (List.replicate q 0) = cs) ∧ Hid (IBc wr w1.heap.size q cs) ∧ Hid (Tch (fun k => k = w1.heap.size) w3 wr)) (fun _ s20 _ => n2 - (intOf s20).toNat)
  case atStart => exact ⟨0, List.replicate q 0, Nat.zero_le _, rfl, List.length_replicate, Lib.hid (by intro i; unfold ig; rw [List.getD_eq_getElem?_getD, List.getElem?_replicate]; split <;> simp), Lib.hid (by show _ = _; simp), HK3, Lib.hid (Tch.refl _ _)⟩
  case round =>
    obtain ⟨j, cs, hj, rfl, hcl, hbd, hfr, hbk, ht⟩ := hrel
    have hb0 := (HB3.out.mono (B' := w1.heap.size) (by omega)).trans (ht.out.below (B := w1.heap.size) (by omega) (by rintro k rfl; exact Nat.le_refl _))
    have hb1 := Lib.hid hb0
    have hgw : w1.heap.size < wr.heap.size := hbk.out.ib.lt
    have HGW := Lib.hid ((HG1.out.below hb0).on (Below.refl _ wr) (by omega))
    have HCW := Lib.hid (HC.out.below hb0 hs1)
    clear hb0
    by_cases hlj : j < n2
    · obtain ⟨g3, hA2, hg3, hg4, hx3⟩ := HO.out.cellY hlj
      have hx4 : wr.cell? ⟨g3, j, none⟩ = some (.int .i64 (ig (highI ns level) j)) := (ht.out.cell (p := ⟨g3, j, none⟩) hg4 (by show ¬ g3 = _; omega)).trans hx3
      have hxj : j < (highI ns level).length := by rw [HOL.out]; exact hlj
      have hfo := fold_take (dgsF ns level q) (List.replicate q 0) hxj
      rw [hfr.out] at hfo
      obtain ⟨x, hx⟩ : ∃ x, ig (highI ns level) j = x := ⟨_, rfl⟩
      rw [hx] at hx4 hfo
      subst hA2
      obtain ⟨d, hd, hdm⟩ := deg_nat HGW.out x level
      have HDG := pl_degree A n c ns en tp x level wr HGW.out
      rw [hd] at HDG
      obtain ⟨i, hi⟩ : ∃ i : Nat, min (d : Int) ((q : Int) - 1) = i := ⟨(min (d : Int) ((q : Int) - 1)).toNat, by omega⟩
      have hiq : i < q := by omega
      have hpl : placeD ns level q x = i := by unfold placeD; rw [hd, hi, Int.toNat_natCast]
      obtain ⟨v, hv⟩ : ∃ v, ig cs i = v := ⟨_, rfl⟩
      have hbi := hbd.out i
      rw [hv] at hbi
      obtain ⟨vn, rfl⟩ : ∃ vn : Nat, v = vn := ⟨v.toNat, by omega⟩
      have hvn : vn ≤ 1048576 := by omega
      have cv0 : wr.cell? ⟨w1.heap.size, i, none⟩ = some (.int .i64 (vn : Int)) := by rw [hbk.out.ib.cell (by omega), hv]
      have HBD : Hid (∀ z, 0 ≤ ig (cs.set i ((vn : Int) + 1)) z ∧ ig (cs.set i ((vn : Int) + 1)) z ≤ ((j + 1 : Nat) : Int)) := by
        intro z
        have h1 := hbd.out z
        rcases ig_setO i z ((vn : Int) + 1) (cs := cs) with h | h <;> rw [h] <;> omega
      have LP := plane_load HCW.out
      clear hd hx hx3 hg3 hg4 hbi
      unfold pgL at LP HDG
      replace HDG := Lib.hid HDG
      have HF : Hid (((highI ns level).take (j + 1)).foldl (dgsF ns level q) (List.replicate q 0) = cs.set i ((vn : Int) + 1)) := by
        show _ = _; rw [hfo]; unfold dgsF; rw [hpl, hv]
      clear hfo hv hbd hfr HGW hpl
      go_wp2_with (first
        | refine wpList_loadE LP _ rfl rfl rfl ?_
        | (go_at_call 43; (with_reducible refine HDG.out.mono ?_); rintro e w5 ⟨rfl, b5⟩; have cv := (b5.cell (p := ⟨w1.heap.size, i, none⟩) hgw).trans cv0; have K5 := Lib.hid (hbk.out.at_ (b5.block _ hgw)); have cf := K5.out.ib.frozen i; have HT5 := Lib.hid (ht.out.trans (Tch.of_below (S := fun k => k = w1.heap.size) b5) (fun k h => .inl h)); clear b5))
      have HK6 := Lib.hid (K5.out.set_ (k := i) (by omega) ((vn : Int) + 1))
      have HT6 : Hid (Tch (fun k => k = w1.heap.size) w3 (w5.setCell ⟨w1.heap.size, i, none⟩ (.int .i64 ((vn : Int) + 1)))) := HT5.out.setCell rfl _ _
      clear LP HDG hbk ht K5 HT5 cv cf cv0
      go_roundw
      case rel => exact ⟨j + 1, cs.set i ((vn : Int) + 1), by omega, by go_num, by simpa using hcl, HBD, HF, HK6, HT6⟩
      case measure => simp [intOf]; omega
    · obtain rfl : j = n2 := by omega
      have hfin : Hid (dgsI ns level most = cs) := by
        show _ = _
        have h1 := hfr.out
        rw [List.take_of_length_le (by rw [HOL.out]; exact Nat.le_refl _)] at h1
        rw [HR.out]
        exact h1
      have HF : Hid (OwnI wr w.heap.size (some ⟨w1.heap.size, 0, none⟩) q q cs) := by
        have h1 := OwnI.of_row hbk.out (B := w.heap.size) (by omega) (n := q) (by omega) (by unfold maxLen; omega)
        rw [List.take_of_length_le (by omega)] at h1
        exact h1
      have HBB := Lib.hid (HB.out.trans ((HB3.out.mono (B' := w.heap.size) (by omega)).trans (ht.out.below (B := w.heap.size) (by omega) (by rintro k rfl; omega))))
      clear hfr HGW HCW hb1 hbk ht hbd
      go_wp2_with fail
      go_ret
      exact ⟨_, _, _, rfl, by rw [hfin.out]; exact HF.out, HBB.out⟩
set_option maxRecDepth 100000 in
set_option maxHeartbeats 2000000 in
theorem rf_degrees (A : Option Addr) (n c : Nat) (ns : List ND) (en tp level most : Int) (w : World) (hg : PgAt w w.heap.size A n c ns) :
    Calls Try.prog 48 #[.agg (pgL A n c en tp), .int .i64 level, .int .i64 most] w (RetI (dgsI ns level most) w) := by
  obtain ⟨w1, hw1⟩ : ∃ x, w.alloc (.cells (pgL A n c en tp) 56) = x := ⟨_, rfl⟩
  obtain ⟨C1, b1⟩ := box_plane hw1
  by_cases hm0 : most < 0
  · have HR : Hid (dgsI ns level most = []) := by show _ = _; unfold dgsI; rw [if_pos hm0]
    have t0 : decide (most < 0) = true := decide_eq_true hm0
    have HB := Lib.hid b1
    clear hg C1 b1 hm0
    unfold pgL at hw1 ⊢
    go_enter Try.func48, Try.ntmps48
    go_upto_region 1 with fail
    (try rw [hw1])
    clear hw1
    go_wp2_with fail
    go_ret
    exact ⟨_, _, _, rfl, by rw [HR.out]; exact OwnI.nil_ _ _, HB.out⟩
  have hm1 : 0 ≤ most := by omega
  have t0 : decide (most < 0) = false := decide_eq_false hm0
  obtain ⟨q, hq⟩ : ∃ q : Nat, min most 4096 + 1 = (q : Int) := ⟨(min most 4096 + 1).toNat, by omega⟩
  have hq1 : 1 ≤ q := by omega
  have hq2 : q ≤ 4097 := by omega
  have HR : Hid (dgsI ns level most = (highI ns level).foldl (dgsF ns level q) (List.replicate q 0)) := by show _ = _; unfold dgsI; rw [if_neg hm0, hq, Int.toNat_natCast]
  have hmk := fun (kl kc : IntKind) => run_make_row' (P := Try.prog) 35 3 (.int .i64 0) 8 Try.underlying35 info_int rfl kl kc q (by omega) (by omega)
  obtain ⟨w2, hw2⟩ : ∃ x, w1.alloc (.cells (madeCells #[.int .i64 0] q) 3) = x := ⟨_, rfl⟩
  have b2 : Below w1.heap.size w1 w2 := by rw [← hw2]; exact bel_box _ _
  have K2 : IBc w2 w1.heap.size q (List.replicate q 0) := by rw [← hw2]; exact IBc.made _ _
  have hl2 : w1.heap.size < w2.heap.size := K2.ib.lt
  have hs1 := C1.lt
  have HL := Lib.hid hg.len
  have hn := hg.2.1
  have GR := (hg.on b1 b1.size).on b2 b2.size
  have C2 := C1.below b2 C1.lt
  have HLV := Lib.hid (rf_live A n c ns en tp w2 GR)
  have HG1 := Lib.hid ((hg.on b1 b1.size).below b2)
  have HC := Lib.hid C2
  have HB := Lib.hid (b1.trans (b2.mono b1.size))
  have HK := Lib.hid K2
  have LP := plane_load C2
  clear hg C1 b1 GR b2 K2 C2 hm0
  unfold pgL at hw1 HLV LP ⊢
  go_enter Try.func48, Try.ntmps48
  go_upto_region 1 with fail
  (try rw [hw1])
  clear hw1
  go_upto_region 4 with fail
  (try rw [hw2])
  clear hw2 hmk hq
  go_wp2_with (first
    | refine wpList_loadE LP _ rfl rfl rfl ?_
    | (go_at_call 28; (with_reducible refine HLV.out.mono ?_); rintro e w3 ⟨A2, n2, c2, rfl, ho2, b3⟩; have HO := Lib.hid ho2; have HOL := Lib.hid ho2.len; have HB3 := Lib.hid b3; have HK3 := Lib.hid (HK.out.at_ (b3.block _ HK.out.ib.lt)); clear ho2 b3))
  have hn2 : n2 ≤ 1048576 := by have h1 := HOL.out; have h2 := lvI_le ns ns.length; have h3 := HL.out; unfold liveI at h1; omega
  have hs3 := HB3.out.size
  clear LP HLV HK
  go_loopw [9, 19] (fun _ s20 wr => ∃ (j : Nat) (cs : List Int), j ≤ n2 ∧ s20 = .int .i64 j ∧ cs.length = q ∧ Hid (∀ z, 0 ≤ ig cs z ∧ ig cs z ≤ j) ∧ Hid (((liveI ns).take j).foldl (dgsG ns level q) (List.replicate q 0) = cs) ∧ Hid (IBc wr w1.heap.size q cs) ∧ Hid (Tch (fun k => k = w1.heap.size) w3 wr)) (fun _ s20 _ => n2 - (intOf s20).toNat)
  case atStart => exact ⟨0, List.replicate q 0, Nat.zero_le _, rfl, List.length_replicate, Lib.hid (by intro i; unfold ig; rw [List.getD_eq_getElem?_getD, List.getElem?_replicate]; split <;> simp), Lib.hid (by show _ = _; simp), HK3, Lib.hid (Tch.refl _ _)⟩
  case round =>
    obtain ⟨j, cs, hj, rfl, hcl, hbd, hfr, hbk, ht⟩ := hrel
    have hb0 := (HB3.out.mono (B' := w1.heap.size) (by omega)).trans (ht.out.below (B := w1.heap.size) (by omega) (by rintro k rfl; exact Nat.le_refl _))
    have hb1 := Lib.hid hb0
    have hgw : w1.heap.size < wr.heap.size := hbk.out.ib.lt
    have HGW := Lib.hid ((HG1.out.below hb0).on (Below.refl _ wr) (by omega))
    have HCW := Lib.hid (HC.out.below hb0 hs1)
    clear hb0
    by_cases hlj : j < n2
    · obtain ⟨g3, hA2, hg3, hg4, hx3⟩ := HO.out.cellY hlj
      have hx4 : wr.cell? ⟨g3, j, none⟩ = some (.int .i64 (ig (liveI ns) j)) := (ht.out.cell (p := ⟨g3, j, none⟩) hg4 (by show ¬ g3 = _; omega)).trans hx3
      have hxj : j < (liveI ns).length := by rw [HOL.out]; exact hlj
      have hfo := fold_take (dgsG ns level q) (List.replicate q 0) hxj
      rw [hfr.out] at hfo
      obtain ⟨x, hx⟩ : ∃ x, ig (liveI ns) j = x := ⟨_, rfl⟩
      rw [hx] at hx4 hfo
      subst hA2
      obtain ⟨k, hx0, hkt, hkl⟩ := live_nat (ig_mem hxj)
      have hkn : k < n := by have h3 := HL.out; omega
      obtain ⟨b, o, rfl, HY⟩ := HGW.out.levY hkn
      have z3 := HY.out wr (Below.refl _ _)
      have z0 : wr.cell? ⟨w.heap.size, 0, none⟩ = some (.slice (some ⟨b, o, none⟩) n c) := HCW.out.cell 0
      obtain rfl : x = (k : Int) := hx.symm.trans hx0
      have HLW : Hid (lowB ns level k = decide ((nAt ns k).level < level)) := by show _ = _; unfold lowB; rw [Int.toNat_natCast]
      obtain ⟨l, hl⟩ : ∃ l, (nAt ns k).level = l := ⟨_, rfl⟩
      rw [hl] at z3 HLW
      clear hx0 hkt hl HY
      obtain ⟨d, hd, hdm⟩ := deg_nat HGW.out (k : Int) level
      have HDG := rf_degree (some ⟨b, o, none⟩) n c ns en tp (k : Int) level wr HGW.out
      rw [hd] at HDG
      obtain ⟨i, hi⟩ : ∃ i : Nat, min (d : Int) ((q : Int) - 1) = i := ⟨(min (d : Int) ((q : Int) - 1)).toNat, by omega⟩
      have hiq : i < q := by omega
      have hpl : placeD ns level q (k : Int) = i := by unfold placeD; rw [hd, hi, Int.toNat_natCast]
      obtain ⟨v, hv⟩ : ∃ v, ig cs i = v := ⟨_, rfl⟩
      have hbi := hbd.out i
      rw [hv] at hbi
      obtain ⟨vn, rfl⟩ : ∃ vn : Nat, v = vn := ⟨v.toNat, by omega⟩
      have hvn : vn ≤ 1048576 := by omega
      have cv0 : wr.cell? ⟨w1.heap.size, i, none⟩ = some (.int .i64 (vn : Int)) := by rw [hbk.out.ib.cell (by omega), hv]
      have HBD : Hid (∀ z, 0 ≤ ig (cs.set i ((vn : Int) + 1)) z ∧ ig (cs.set i ((vn : Int) + 1)) z ≤ ((j + 1 : Nat) : Int)) := by
        intro z
        have h1 := hbd.out z
        rcases ig_setO i z ((vn : Int) + 1) (cs := cs) with h | h <;> rw [h] <;> omega
      have LP := plane_load HCW.out
      clear hd hx hx3 hg3 hg4 hbi
      unfold pgL at LP HDG
      replace HDG := Lib.hid HDG
      cases hlw : decide (l ≥ level) with
      | false =>
        have HF : Hid (((liveI ns).take (j + 1)).foldl (dgsG ns level q) (List.replicate q 0) = cs) := by
          show _ = _; rw [hfo]; unfold dgsG; rw [HLW.out, decide_eq_true (show l < level by have := of_decide_eq_false hlw; omega), if_pos rfl]
        have HBD2 : Hid (∀ z, 0 ≤ ig cs z ∧ ig cs z ≤ ((j + 1 : Nat) : Int)) := fun z => by have h1 := hbd.out z; omega
        clear hfo hv hbd hfr HGW hpl LP HDG
        go_wp2_with fail
        go_roundw
        case rel => exact ⟨j + 1, cs, by omega, by go_num, hcl, HBD2, HF, hbk, ht⟩
        case measure => simp [intOf]; omega
      | true =>
        have HF : Hid (((liveI ns).take (j + 1)).foldl (dgsG ns level q) (List.replicate q 0) = cs.set i ((vn : Int) + 1)) := by
          show _ = _; rw [hfo]; unfold dgsG; rw [HLW.out, decide_eq_false (show ¬ l < level by have := of_decide_eq_true hlw; omega), if_neg (by decide)]; unfold dgsF; rw [hpl, hv]
        clear hfo hv hbd hfr HGW hpl
        go_wp2_with (first
          | refine wpList_loadE LP _ rfl rfl rfl ?_
          | (go_at_call 44; (with_reducible refine HDG.out.mono ?_); rintro e w5 ⟨rfl, b5⟩; have cv := (b5.cell (p := ⟨w1.heap.size, i, none⟩) hgw).trans cv0; have K5 := Lib.hid (hbk.out.at_ (b5.block _ hgw)); have cf := K5.out.ib.frozen i; have HT5 := Lib.hid (ht.out.trans (Tch.of_below (S := fun k => k = w1.heap.size) b5) (fun k h => .inl h)); clear b5))
        have HK6 := Lib.hid (K5.out.set_ (k := i) (by omega) ((vn : Int) + 1))
        have HT6 : Hid (Tch (fun k => k = w1.heap.size) w3 (w5.setCell ⟨w1.heap.size, i, none⟩ (.int .i64 ((vn : Int) + 1)))) := HT5.out.setCell rfl _ _
        clear LP HDG hbk ht K5 HT5 cv cf cv0
        go_roundw
        case rel => exact ⟨j + 1, cs.set i ((vn : Int) + 1), by omega, by go_num, by simpa using hcl, HBD, HF, HK6, HT6⟩
        case measure => simp [intOf]; omega
    · obtain rfl : j = n2 := by omega
      have hfin : Hid (dgsI ns level most = cs) := by
        show _ = _
        have h1 := hfr.out
        rw [List.take_of_length_le (by rw [HOL.out]; exact Nat.le_refl _)] at h1
        rw [HR.out, dgs_doc]
        exact h1
      have HF : Hid (OwnI wr w.heap.size (some ⟨w1.heap.size, 0, none⟩) q q cs) := by
        have h1 := OwnI.of_row hbk.out (B := w.heap.size) (by omega) (n := q) (by omega) (by unfold maxLen; omega)
        rw [List.take_of_length_le (by omega)] at h1
        exact h1
      have HBB := Lib.hid (HB.out.trans ((HB3.out.mono (B' := w.heap.size) (by omega)).trans (ht.out.below (B := w.heap.size) (by omega) (by rintro k rfl; omega))))
      clear hfr HGW HCW hb1 hbk ht hbd
      go_wp2_with fail
      go_ret
      exact ⟨_, _, _, rfl, by rw [hfin.out]; exact HF.out, HBB.out⟩
open Go.RowKit
theorem run_eq_rows (cs : List Int) (h8 : cs.length = 8) (w : World) : (binOp .eql 77 (.agg (rowI cs)) (.agg (rowI cs))).run Try.prog w = .ok (.bool true) w := by
  have hsz : ∀ w, (sizeOf 3).run Try.prog w = .ok 1 w := fun w => by kernel_rfl
  have key : (Op.equalIn (9998 + 2) 77 (.agg (rowI cs)) (.agg (rowI cs))).run Try.prog w = .ok true w := by
    rw [Op.equalIn]
    simp only [Sem.run_bind, run_underlying Try.underlying77, Result.andThen_ok, hsz, Std.Legacy.Range.forIn_eq_forIn_range', Std.Legacy.Range.size, Nat.sub_zero, Nat.add_sub_cancel, Nat.div_one]
    have hl : ∀ i ∈ List.range' 0 8 1, i < 8 := fun i hi => by simpa using (List.mem_range'_1.1 hi).2
    generalize List.range' 0 8 1 = l at hl ⊢
    induction l with
    | nil => simp
    | cons i l ih =>
      have hi : i < 8 := hl i (by simp)
      have px : (part 3 (rowI cs) (i * 1)).run Try.prog w = .ok (.int .i64 (ig cs i)) w := by
        have h1 := rowI_get (cs := cs) (i := i) (by omega)
        simp [part, isAgg, run_underlying Try.underlying3, h1]
      have pe : (Op.equalIn (9998 + 1) 3 (.int .i64 (ig cs i)) (.int .i64 (ig cs i))).run Try.prog w = .ok true w := by
        rw [run_equalIn_int w 9998 3 .i64 .i64 _ _ Try.underlying3]; simp
      simp only [List.forIn_cons, Sem.run_bind, px, pe, Result.andThen_ok, Bool.not_true, Bool.false_eq_true, if_false, Sem.run_pure]
      exact ih fun j hj => hl j (List.mem_cons_of_mem _ hj)
  rw [run_eql_struct, show (10000 : Nat) = 9998 + 2 from rfl, key]
  rfl
theorem wpList_eq8 {ops : Array Oper} {rest : List Oper} {op : Oper} {a : Act} {w : World} {Q : Exit → Act → World → Prop} {t' : TypeId} {cs : List Int} {z : Array Value} (h8 : cs.length = 8) (hz : rowI cs = z) (x y : Operand)
    (hw : Region.wanted op (yielded ops a.tmps) = true) (ho : op.op = .binOp .eql 77 x y t') (hx : a.eval x = .agg z) (hy : a.eval y = .agg z) (h : wpList Try.prog ops Q rest (a.put op.dst (.bool true)) w) : wpList Try.prog ops Q (op :: rest) a w :=
  wpList_step fun K hK => by
    rw [if_pos hw]
    have h1 := run_eq_rows cs h8 w
    rw [hz] at h1
    have h2 := run_eqGuard_agg w .eql 77 x y z z (P := Try.prog) (by kernel_rfl)
    unfold Oper.wp execOp
    simp only [ho, hx, hy, Sem.run_bind, Result.andThen_ok, h1, h2]
    exact hK _ _ h
theorem yieldsIf_eq8 {ops : Array Oper} {S : World → Prop} {o : Oper} {a : Act} {t' : TypeId} {cs : List Int} (h8 : cs.length = 8) (hw : Region.wanted o (yielded ops a.tmps) = true) (x y : Operand) (ho : o.op = .binOp .eql 77 x y t') (hx : a.eval x = .agg (rowI cs)) (hy : a.eval y = .agg (rowI cs)) : YieldsIf Try.prog ops S o (.bool true) a := by
  refine .inl ⟨hw, fun w _ => ?_⟩
  unfold execOp
  have h2 := run_eqGuard_agg w .eql 77 x y (rowI cs) (rowI cs) (P := Try.prog) (by kernel_rfl)
  simp only [ho, hx, hy, Sem.run_bind, run_eq_rows cs h8, h2]
  rfl
section
variable {ns ns' : List ND}
theorem Eqv.deg (h : Eqv ns ns') (s level : Int) : degI ns s level = degI ns' s level := by unfold degI; rw [h.thB, nm_ln (h.nAt _), h.ls]
theorem Eqv.lvls (h : Eqv ns ns') : lvlsI ns = lvlsI ns' := by
  unfold lvlsI; rw [h.live]; congr 1; funext a x; unfold lvlF; rw [nm_level (h.nAt _)]
theorem Eqv.edg (h : Eqv ns ns') (level : Int) : edgI ns level = edgI ns' level := by
  unfold edgI; rw [h.live]; congr 2; funext a x; unfold addF; rw [h.deg]
theorem Eqv.wid (h : Eqv ns ns') (level : Int) : widI ns level = widI ns' level := by
  unfold widI; rw [h.live]; congr 1; funext a x; unfold widF; rw [h.deg]
theorem Eqv.high (h : Eqv ns ns') (level : Int) : highI ns level = highI ns' level := by
  unfold highI; rw [h.live]; congr 1; funext x; unfold lowB; rw [nm_level (h.nAt _)]
theorem Eqv.alone (h : Eqv ns ns') (level : Int) : aloneI ns level = aloneI ns' level := by
  unfold aloneI; rw [h.high]; congr 1; funext x; unfold manyB; rw [h.deg]
theorem Eqv.dgs (h : Eqv ns ns') (level most : Int) : dgsI ns level most = dgsI ns' level most := by
  unfold dgsI; rw [h.high]; congr 2; funext a x; unfold dgsF placeD; rw [h.deg]
end
section
variable {w : World} {g n c : Nat} {en tp : Int} {L : List ND}
theorem levels_e (h : PgE w g n c L) {y : List Int} {z : Array Value} (hy : lvlsI L = y) (hz : rowI y = z) : Calls Try.prog 41 #[.agg #[.slice (some ⟨g, 0, none⟩) n c, .int .i64 en, .int .i64 tp]] w (fun e w' => e = .returned (.agg z) ∧ Below w.heap.size w w') := by
  obtain ⟨ns, h1, h2⟩ := h
  rw [← hz, ← hy, h2.lvls]
  exact pl_levels _ _ _ _ _ _ _ h1
theorem degree_e (h : PgE w g n c L) (s level : Int) {y : Int} (hy : degI L s level = y) : Calls Try.prog 43 #[.agg #[.slice (some ⟨g, 0, none⟩) n c, .int .i64 en, .int .i64 tp], .int .i64 s, .int .i64 level] w (RetE y w) := by
  obtain ⟨ns, h1, h2⟩ := h
  rw [← hy, h2.deg]
  exact pl_degree _ _ _ _ _ _ _ _ _ h1
theorem edges_e (h : PgE w g n c L) (level : Int) {y : Int} (hy : edgI L level = y) : Calls Try.prog 45 #[.agg #[.slice (some ⟨g, 0, none⟩) n c, .int .i64 en, .int .i64 tp], .int .i64 level] w (RetE y w) := by
  obtain ⟨ns, h1, h2⟩ := h
  rw [← hy, h2.edg]
  exact pl_edges _ _ _ _ _ _ _ _ h1
theorem widest_e (h : PgE w g n c L) (level : Int) {a b : Int} (hy : widI L level = (a, b)) : Calls Try.prog 39 #[.agg #[.slice (some ⟨g, 0, none⟩) n c, .int .i64 en, .int .i64 tp], .int .i64 level] w (fun e w' => e = .returned (.tuple #[.int .i64 a, .int .i64 b]) ∧ Below w.heap.size w w') := by
  obtain ⟨ns, h1, h2⟩ := h
  rw [h2.wid] at hy
  have h3 := pl_widest _ _ _ _ en tp level _ h1
  rw [hy] at h3
  exact h3
theorem degrees_e (h : PgE w g n c L) (level most : Int) {y : List Int} (hy : dgsI L level most = y) : Calls Try.prog 47 #[.agg #[.slice (some ⟨g, 0, none⟩) n c, .int .i64 en, .int .i64 tp], .int .i64 level, .int .i64 most] w (RetI y w) := by
  obtain ⟨ns, h1, h2⟩ := h
  rw [← hy, h2.dgs]
  exact pl_degrees _ _ _ _ _ _ _ _ _ h1
theorem alone_e (h : PgE w g n c L) (level : Int) {y : List Int} (hy : aloneI L level = y) : Calls Try.prog 49 #[.agg #[.slice (some ⟨g, 0, none⟩) n c, .int .i64 en, .int .i64 tp], .int .i64 level] w (RetI y w) := by
  obtain ⟨ns, h1, h2⟩ := h
  rw [← hy, h2.alone]
  exact pl_alone _ _ _ _ _ _ _ _ h1
end
def cq1 : List ND := putSt [nd0] 1 (putND [nd0] 7 0 [] 0 1)
def cq2 : List ND := putSt cq1 2 (putND cq1 8 0 [] 0 0)
def cq3 : List ND := linkSt cq2 1 2 0
theorem cf1 : putW [nd0] 2 0 0 1 7 = 0 ∧ slotI [nd0] = 1 := by decide +kernel
theorem cf2 : putW cq1 2 0 0 0 8 = 0 ∧ slotI cq1 = 2 := by decide +kernel
theorem cf3 : linkB cq2 2 0 0 1 2 0 = true ∧ cq2.length = 3 := by decide +kernel
theorem cf4 : widI cq3 0 = (1, 1) ∧ widI [nd0] 0 = (0, 0) ∧ lvlsI cq3 = [1, 1, 0, 0, 0, 0, 0, 0] := by decide +kernel
theorem cf5 : degI cq3 1 0 = 1 ∧ degI cq3 0 0 = 0 ∧ degI cq3 1 9 = 0 ∧ edgI cq3 0 = 1 := by decide +kernel
theorem cf6 : dgsI cq3 0 2 = [0, 2, 0] ∧ dgsI cq3 0 0 = [2] ∧ dgsI cq3 0 (-1) = [] ∧ aloneI cq3 1 = [1] := by decide +kernel
theorem run_eql8 (w : World) : (Op.equalIn 10000 77 (.agg #[.int .i64 1, .int .i64 1, .int .i64 0, .int .i64 0, .int .i64 0, .int .i64 0, .int .i64 0, .int .i64 0]) (.agg #[.int .i64 1, .int .i64 1, .int .i64 0, .int .i64 0, .int .i64 0, .int .i64 0, .int .i64 0, .int .i64 0])).run Try.prog w = .ok true w := by kernel_rfl
theorem sameB_refl (xs : List Int) : sameB xs xs = true := by unfold sameB; exact decide_eq_true rfl
set_option maxRecDepth 100000 in
set_option maxHeartbeats 4000000 in
theorem lives42 (w : World) : Calls Try.prog 38 #[] w (RetB true w) := by
  have HB : Hid (Below w.heap.size w w) := Below.refl _ _
  go_enter Try.func38, Try.ntmps38
  have HC := Lib.hid (new_e (w := w))
  go_wp2_with (go_at_call 33; (with_reducible refine HC.out.mono ?_); rintro e W0 ⟨g0, n0, c0, rfl, hp0, hb⟩; have HP0 := Lib.hid hp0; replace HB := Lib.hid (HB.out.trans (hb.mono HB.out.size)); clear hp0 hb)
  clear HC
  have HC := Lib.hid (put_e HP0.out 2 1 7 none 0 0 [] 0 (vec0 W0) (by decide) cf1.1 cf1.2)
  go_wp2_with (first | ((with_reducible refine wpList_storeE (op := ⟨none, _, _, _, _, _⟩) SR ?s1X ?s1Y ?s1G ?s1O ?s1A ?s1B ?_); (case s1O => exact rfl); (case s1A => exact rfl); (case s1B => exact rfl); (case s1G => exact rfl)) | ((with_reducible refine wpList_loadE (op := ⟨some 21, _, _, _, _, _⟩) LP ?e2X ?e2G ?e2O ?e2E ?_); (case e2O => exact rfl); (case e2E => exact rfl); (case e2G => exact rfl)) | (go_at_call 34; (with_reducible refine HC.out.mono ?_); rintro e W1 ⟨g1, n1, c1, rfl, hp, hb⟩; replace HB := Lib.hid (HB.out.trans (hb.mono HB.out.size)); have SR := plane_put W1 (some ⟨g1, 0, none⟩) n1 c1 0 0; have NP := PV.new (en := 0) (tp := 0) hp; have NB := plane_bel W1 (some ⟨g1, 0, none⟩) n1 c1 0 0; obtain ⟨X1, hX⟩ : ∃ x, ((W1.alloc (.cells (pgL none 0 0 0 0) 56)).setCells W1.heap.size 0 (pgL (some ⟨g1, 0, none⟩) n1 c1 0 0).toList) = x := ⟨_, rfl⟩; rw [hX] at SR NP NB; replace HB := Lib.hid (HB.out.trans (NB.mono HB.out.size)); have Pa : Hid (PV X1 W1.heap.size g1 n1 c1 0 0 cq1) := NP; have LP := Pa.out.load; clear hX NP NB hp hb))
  clear HC SR LP
  clear HP0
  have HC := Lib.hid (put_e Pa.out.pge 2 0 8 none 0 0 [] 0 (vec0 X1) (by decide) cf2.1 cf2.2)
  go_wp2_with (first | ((with_reducible refine wpList_storeE (op := ⟨none, _, _, _, _, _⟩) SR ?s3X ?s3Y ?s3G ?s3O ?s3A ?s3B ?_); (case s3O => exact rfl); (case s3A => exact rfl); (case s3B => exact rfl); (case s3G => exact rfl)) | ((with_reducible refine wpList_loadE (op := ⟨some 28, _, _, _, _, _⟩) LP ?e4X ?e4G ?e4O ?e4E ?_); (case e4O => exact rfl); (case e4E => exact rfl); (case e4G => exact rfl)) | (go_at_call 34; (with_reducible refine HC.out.mono ?_); rintro e W2 ⟨g2, n2, c2, rfl, hp, hb⟩; replace Pa := Lib.hid (Pa.out.below hb); replace HB := Lib.hid (HB.out.trans (hb.mono HB.out.size)); have SR := plane_put W2 (some ⟨g2, 0, none⟩) n2 c2 0 0; have NP := PV.new (en := 0) (tp := 0) hp; have NB := plane_bel W2 (some ⟨g2, 0, none⟩) n2 c2 0 0; obtain ⟨X2, hX⟩ : ∃ x, ((W2.alloc (.cells (pgL none 0 0 0 0) 56)).setCells W2.heap.size 0 (pgL (some ⟨g2, 0, none⟩) n2 c2 0 0).toList) = x := ⟨_, rfl⟩; rw [hX] at SR NP NB; replace Pa := Lib.hid (Pa.out.below NB); replace HB := Lib.hid (HB.out.trans (NB.mono HB.out.size)); have Pb : Hid (PV X2 W2.heap.size g2 n2 c2 0 0 cq2) := NP; have LP := Pb.out.load; clear hX NP NB hp hb))
  clear HC SR LP
  have HC := Lib.hid (link_e Pb.out.pge (by have h := Pb.out.pge.len; have h2 := cf3.2; have h3 : cq2.length = n2 := h; omega) 2 1 2 0 cf3.1)
  go_wp2_with (first | ((with_reducible refine wpList_storeE (op := ⟨none, _, _, _, _, _⟩) SR ?s5X ?s5Y ?s5G ?s5O ?s5A ?s5B ?_); (case s5O => exact rfl); (case s5A => exact rfl); (case s5B => exact rfl); (case s5G => exact rfl)) | ((with_reducible refine wpList_loadE (op := ⟨some 33, _, _, _, _, _⟩) LP ?e6X ?e6G ?e6O ?e6E ?_); (case e6O => exact rfl); (case e6E => exact rfl); (case e6G => exact rfl)) | (go_at_call 35; (with_reducible refine HC.out.mono ?_); rintro e W3 ⟨g3, n3, c3, rfl, hp, hb⟩; replace Pa := Lib.hid (Pa.out.below hb); replace Pb := Lib.hid (Pb.out.below hb); replace HB := Lib.hid (HB.out.trans (hb.mono HB.out.size)); have SR := plane_put W3 (some ⟨g3, 0, none⟩) n3 c3 0 0; have NP := PV.new (en := 0) (tp := 0) hp; have NB := plane_bel W3 (some ⟨g3, 0, none⟩) n3 c3 0 0; obtain ⟨X3, hX⟩ : ∃ x, ((W3.alloc (.cells (pgL none 0 0 0 0) 56)).setCells W3.heap.size 0 (pgL (some ⟨g3, 0, none⟩) n3 c3 0 0).toList) = x := ⟨_, rfl⟩; rw [hX] at SR NP NB; replace Pa := Lib.hid (Pa.out.below NB); replace Pb := Lib.hid (Pb.out.below NB); replace HB := Lib.hid (HB.out.trans (NB.mono HB.out.size)); have Pc : Hid (PV X3 W3.heap.size g3 n3 c3 0 0 cq3) := NP; have LP := Pc.out.load; clear hX NP NB hp hb))
  clear HC SR LP
  clear Pa Pb
  have HC := Lib.hid (widest_e (en := 0) (tp := 0) Pc.out.pge 0 cf4.1)
  go_wp2_with (first | (go_at_call 39; (with_reducible refine HC.out.mono ?_); rintro e W4 ⟨rfl, hb⟩; replace Pc := Lib.hid (Pc.out.below hb); replace HB := Lib.hid (HB.out.trans (hb.mono HB.out.size)); clear hb))
  clear HC
  have HC := Lib.hid (new_e (w := W4))
  go_wp2_with (go_at_call 33; (with_reducible refine HC.out.mono ?_); rintro e Y0 ⟨g9, n9, c9, rfl, hp9, hb⟩; have HP9 := Lib.hid hp9; replace Pc := Lib.hid (Pc.out.below hb); replace HB := Lib.hid (HB.out.trans (hb.mono HB.out.size)); clear hp9 hb)
  clear HC
  have HC := Lib.hid (widest_e (en := 0) (tp := 0) HP9.out 0 cf4.2.1)
  go_wp2_with (first | (go_at_call 39; (with_reducible refine HC.out.mono ?_); rintro e W5 ⟨rfl, hb⟩; replace Pc := Lib.hid (Pc.out.below hb); replace HB := Lib.hid (HB.out.trans (hb.mono HB.out.size)); have z0 : W5.cell? ⟨W3.heap.size, 0, none⟩ = some (.slice (some ⟨g3, 0, none⟩) n3 c3) := Pc.out.blk.cell 0; have z1 : W5.cell? ⟨W3.heap.size, 1, none⟩ = some (.int .i64 0) := Pc.out.blk.cell 1; have z2 : W5.cell? ⟨W3.heap.size, 2, none⟩ = some (.int .i64 0) := Pc.out.blk.cell 2; clear hb))
  clear HC z0 z1 z2
  clear HP9
  have HC := Lib.hid (levels_e (en := 0) (tp := 0) Pc.out.pge cf4.2.2 (z := #[.int .i64 1, .int .i64 1, .int .i64 0, .int .i64 0, .int .i64 0, .int .i64 0, .int .i64 0, .int .i64 0]) (by kernel_rfl))
  go_wp2_with (first | (go_at_call 41; (with_reducible refine HC.out.mono ?_); rintro e W6 ⟨rfl, hb⟩; replace Pc := Lib.hid (Pc.out.below hb); replace HB := Lib.hid (HB.out.trans (hb.mono HB.out.size)); clear hb))
  clear HC
  rw [run_eql8]
  go_simp
  have z0 : W6.cell? ⟨W3.heap.size, 0, none⟩ = some (.slice (some ⟨g3, 0, none⟩) n3 c3) := Pc.out.blk.cell 0
  have z1 : W6.cell? ⟨W3.heap.size, 1, none⟩ = some (.int .i64 0) := Pc.out.blk.cell 1
  have z2 : W6.cell? ⟨W3.heap.size, 2, none⟩ = some (.int .i64 0) := Pc.out.blk.cell 2
  go_wp2_with fail
  clear z0 z1 z2
  have HC := Lib.hid (degree_e (en := 0) (tp := 0) Pc.out.pge 1 0 cf5.1)
  go_wp2_with (first | (go_at_call 43; (with_reducible refine HC.out.mono ?_); rintro e W7 ⟨rfl, hb⟩; replace Pc := Lib.hid (Pc.out.below hb); replace HB := Lib.hid (HB.out.trans (hb.mono HB.out.size)); have z0 : W7.cell? ⟨W3.heap.size, 0, none⟩ = some (.slice (some ⟨g3, 0, none⟩) n3 c3) := Pc.out.blk.cell 0; have z1 : W7.cell? ⟨W3.heap.size, 1, none⟩ = some (.int .i64 0) := Pc.out.blk.cell 1; have z2 : W7.cell? ⟨W3.heap.size, 2, none⟩ = some (.int .i64 0) := Pc.out.blk.cell 2; clear hb))
  clear HC z0 z1 z2
  have HC := Lib.hid (degree_e (en := 0) (tp := 0) Pc.out.pge 0 0 cf5.2.1)
  go_wp2_with (first | (go_at_call 43; (with_reducible refine HC.out.mono ?_); rintro e W8 ⟨rfl, hb⟩; replace Pc := Lib.hid (Pc.out.below hb); replace HB := Lib.hid (HB.out.trans (hb.mono HB.out.size)); have z0 : W8.cell? ⟨W3.heap.size, 0, none⟩ = some (.slice (some ⟨g3, 0, none⟩) n3 c3) := Pc.out.blk.cell 0; have z1 : W8.cell? ⟨W3.heap.size, 1, none⟩ = some (.int .i64 0) := Pc.out.blk.cell 1; have z2 : W8.cell? ⟨W3.heap.size, 2, none⟩ = some (.int .i64 0) := Pc.out.blk.cell 2; clear hb))
  clear HC z0 z1 z2
  have HC := Lib.hid (degree_e (en := 0) (tp := 0) Pc.out.pge 1 9 cf5.2.2.1)
  go_wp2_with (first | (go_at_call 43; (with_reducible refine HC.out.mono ?_); rintro e W9 ⟨rfl, hb⟩; replace Pc := Lib.hid (Pc.out.below hb); replace HB := Lib.hid (HB.out.trans (hb.mono HB.out.size)); have z0 : W9.cell? ⟨W3.heap.size, 0, none⟩ = some (.slice (some ⟨g3, 0, none⟩) n3 c3) := Pc.out.blk.cell 0; have z1 : W9.cell? ⟨W3.heap.size, 1, none⟩ = some (.int .i64 0) := Pc.out.blk.cell 1; have z2 : W9.cell? ⟨W3.heap.size, 2, none⟩ = some (.int .i64 0) := Pc.out.blk.cell 2; clear hb))
  clear HC z0 z1 z2
  have HC := Lib.hid (edges_e (en := 0) (tp := 0) Pc.out.pge 0 cf5.2.2.2)
  go_wp2_with (first | (go_at_call 45; (with_reducible refine HC.out.mono ?_); rintro e W10 ⟨rfl, hb⟩; replace Pc := Lib.hid (Pc.out.below hb); replace HB := Lib.hid (HB.out.trans (hb.mono HB.out.size)); have z0 : W10.cell? ⟨W3.heap.size, 0, none⟩ = some (.slice (some ⟨g3, 0, none⟩) n3 c3) := Pc.out.blk.cell 0; have z1 : W10.cell? ⟨W3.heap.size, 1, none⟩ = some (.int .i64 0) := Pc.out.blk.cell 1; have z2 : W10.cell? ⟨W3.heap.size, 2, none⟩ = some (.int .i64 0) := Pc.out.blk.cell 2; clear hb))
  clear HC z0 z1 z2
  have HC := Lib.hid (degrees_e (en := 0) (tp := 0) Pc.out.pge 0 2 cf6.1)
  go_wp2_with (first | (go_at_call 47; (with_reducible refine HC.out.mono ?_); rintro e W11 ⟨A11, m11, d11, rfl, ho11, hb⟩; replace Pc := Lib.hid (Pc.out.below hb); replace HB := Lib.hid (HB.out.trans (hb.mono HB.out.size)); have R11 := Lib.hid ho11.rd; have L11 := Lib.hid ho11.len; clear ho11; clear hb))
  clear HC
  have hbl := bel_box W11 (.cells ([0, 2, 0].map (Value.int .i64)).toArray 3)
  have HC := Lib.hid (same_lit (c := d11) R11.out (by have h := L11.out; have h2 : ([0, 2, 0] : List Int).length = m11 := h; have h3 : ([0, 2, 0] : List Int).length = 3 := rfl; omega) [0, 2, 0] 3 rfl (by decide) (sameB_refl [0, 2, 0]))
  replace Pc := Lib.hid (Pc.out.below hbl)
  replace R11 := Lib.hid ((R11.out.below hbl).more hbl.size)
  replace HB := Lib.hid (HB.out.trans (hbl.mono HB.out.size))
  clear hbl
  go_wp2_with (first | (go_at_call 26; refine HC.out.mono ?_; rintro e W12 ⟨rfl, hb⟩; replace Pc := Lib.hid (Pc.out.below hb); replace R11 := Lib.hid ((R11.out.below hb).more hb.size); replace HB := Lib.hid (HB.out.trans (hb.mono HB.out.size)); have z0 : W12.cell? ⟨W3.heap.size, 0, none⟩ = some (.slice (some ⟨g3, 0, none⟩) n3 c3) := Pc.out.blk.cell 0; have z1 : W12.cell? ⟨W3.heap.size, 1, none⟩ = some (.int .i64 0) := Pc.out.blk.cell 1; have z2 : W12.cell? ⟨W3.heap.size, 2, none⟩ = some (.int .i64 0) := Pc.out.blk.cell 2; clear hb))
  clear HC z0 z1 z2
  clear R11 L11
  have HC := Lib.hid (degrees_e (en := 0) (tp := 0) Pc.out.pge 0 0 cf6.2.1)
  go_wp2_with (first | (go_at_call 47; (with_reducible refine HC.out.mono ?_); rintro e W13 ⟨A13, m13, d13, rfl, ho13, hb⟩; replace Pc := Lib.hid (Pc.out.below hb); replace HB := Lib.hid (HB.out.trans (hb.mono HB.out.size)); have R13 := Lib.hid ho13.rd; have L13 := Lib.hid ho13.len; clear ho13; clear hb))
  clear HC
  have hbl := bel_box W13 (.cells ([2].map (Value.int .i64)).toArray 3)
  have HC := Lib.hid (same_lit (c := d13) R13.out (by have h := L13.out; have h2 : ([2] : List Int).length = m13 := h; have h3 : ([2] : List Int).length = 1 := rfl; omega) [2] 1 rfl (by decide) (sameB_refl [2]))
  replace Pc := Lib.hid (Pc.out.below hbl)
  replace R13 := Lib.hid ((R13.out.below hbl).more hbl.size)
  replace HB := Lib.hid (HB.out.trans (hbl.mono HB.out.size))
  clear hbl
  go_wp2_with (first | (go_at_call 26; refine HC.out.mono ?_; rintro e W14 ⟨rfl, hb⟩; replace Pc := Lib.hid (Pc.out.below hb); replace R13 := Lib.hid ((R13.out.below hb).more hb.size); replace HB := Lib.hid (HB.out.trans (hb.mono HB.out.size)); have z0 : W14.cell? ⟨W3.heap.size, 0, none⟩ = some (.slice (some ⟨g3, 0, none⟩) n3 c3) := Pc.out.blk.cell 0; have z1 : W14.cell? ⟨W3.heap.size, 1, none⟩ = some (.int .i64 0) := Pc.out.blk.cell 1; have z2 : W14.cell? ⟨W3.heap.size, 2, none⟩ = some (.int .i64 0) := Pc.out.blk.cell 2; clear hb))
  clear HC z0 z1 z2
  clear R13 L13
  have HC := Lib.hid (degrees_e (en := 0) (tp := 0) Pc.out.pge 0 (-1) cf6.2.2.1)
  go_wp2_with (first | (go_at_call 47; (with_reducible refine HC.out.mono ?_); rintro e W15 ⟨A15, m15, d15, rfl, ho15, hb⟩; replace Pc := Lib.hid (Pc.out.below hb); replace HB := Lib.hid (HB.out.trans (hb.mono HB.out.size)); obtain rfl : m15 = 0 := (by have h := ho15.len; have h2 : ([] : List Int).length = m15 := h; exact h2.symm); clear ho15; have z0 : W15.cell? ⟨W3.heap.size, 0, none⟩ = some (.slice (some ⟨g3, 0, none⟩) n3 c3) := Pc.out.blk.cell 0; have z1 : W15.cell? ⟨W3.heap.size, 1, none⟩ = some (.int .i64 0) := Pc.out.blk.cell 1; have z2 : W15.cell? ⟨W3.heap.size, 2, none⟩ = some (.int .i64 0) := Pc.out.blk.cell 2; clear hb))
  clear HC z0 z1 z2
  have HC := Lib.hid (alone_e (en := 0) (tp := 0) Pc.out.pge 1 cf6.2.2.2)
  go_wp2_with (first | (go_at_call 49; (with_reducible refine HC.out.mono ?_); rintro e W16 ⟨A16, m16, d16, rfl, ho16, hb⟩; replace Pc := Lib.hid (Pc.out.below hb); replace HB := Lib.hid (HB.out.trans (hb.mono HB.out.size)); have R16 := Lib.hid ho16.rd; have L16 := Lib.hid ho16.len; clear ho16; clear hb))
  clear HC
  have hbl := bel_box W16 (.cells ([1].map (Value.int .i64)).toArray 3)
  have HC := Lib.hid (same_lit (c := d16) R16.out (by have h := L16.out; have h2 : ([1] : List Int).length = m16 := h; have h3 : ([1] : List Int).length = 1 := rfl; omega) [1] 1 rfl (by decide) (sameB_refl [1]))
  replace Pc := Lib.hid (Pc.out.below hbl)
  replace R16 := Lib.hid ((R16.out.below hbl).more hbl.size)
  replace HB := Lib.hid (HB.out.trans (hbl.mono HB.out.size))
  clear hbl
  go_wp2_with (first | (go_at_call 26; refine HC.out.mono ?_; rintro e W17 ⟨rfl, hb⟩; replace Pc := Lib.hid (Pc.out.below hb); replace R16 := Lib.hid ((R16.out.below hb).more hb.size); replace HB := Lib.hid (HB.out.trans (hb.mono HB.out.size)); clear hb))
  clear HC
  clear R16 L16
  go_ret
  exact ⟨rfl, HB.out⟩
end Go.Proofs.Ytkhnnjeinpojkaa
