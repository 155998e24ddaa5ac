/- All that is near, the nearest first: exact's Search, Within, Place. -/
import Derived.Test.YtpbjndjbpihfmaaExA
namespace Go.Proofs.Ytpbjndjbpihfmaa
open Go.RowKit
theorem sizeHit : ∀ w, (sizeOf (Try.prog.elem 26)).run Try.prog w = .ok 2 w := by
  intro w
  have : Try.prog.elem 26 = 29 := by unfold Program.elem; rw [Try.underlying26]
  rw [this]
  exact Try.sizeOf29 w
set_option maxRecDepth 100000 in
theorem run_hiH (A : Option Addr) (m c k : Nat) (hk : k ≤ c) (w : World) : (Instr.slice 26 (.slice A m c) none (some (.int .i64 k)) none).run Try.prog w = .ok (.slice A k c) w := by
  have he : Try.prog.underlying 26 = some (.slice (Try.prog.elem 26)) := by unfold Program.elem; rw [Try.underlying26]
  rw [run_slice_h w 26 A m c he .i64 k (by omega) (by omega), sizeHit]
  simp only [Result.andThen, sliced, Int.toNat_natCast, Nat.zero_mul, Nat.sub_zero]
  congr 1
  split
  · rfl
  · cases A <;> simp [Addr.add]
theorem HtAt.len {w : World} {B : Nat} {A : Option Addr} {n : Nat} {l : List Sp} (h : HtAt w B A n l) : l.length = n := by have := Rs.len h; simpa using this
theorem HtAt.below {w w' : World} {B : Nat} {A : Option Addr} {n : Nat} {l : List Sp} (h : HtAt w B A n l) (hb : Below B w w') : HtAt w' B A n l := Rs.below h hb
theorem HtAt.more {w : World} {B B' : Nat} {A : Option Addr} {n : Nat} {l : List Sp} (h : HtAt w B A n l) (hB : B ≤ B') : HtAt w B' A n l := Rs.more h hB
theorem HtAt.on {w w' : World} {B : Nat} {A : Option Addr} {n : Nat} {l : List Sp} (h : HtAt w B A n l) (hB : B ≤ w.heap.size) (hb : Below w.heap.size w w') : HtAt w' w'.heap.size A n l := (Rs.below (Rs.more h hB) hb).more hb.size
theorem HtAt.take {w : World} {B : Nat} {A : Option Addr} {n k : Nat} {l : List Sp} (h : HtAt w B A n l) (hk : k ≤ n) : HtAt w B A k (l.take k) := by
  refine ⟨by have := h.len; simp; omega, fun c hc => by obtain ⟨x, _, rfl⟩ := List.mem_map.1 hc; rfl, fun h0 => ?_⟩
  obtain ⟨b, o, e, hb, hc⟩ := h.2.2 (by omega)
  refine ⟨b, o, e, hb, fun i c hi => hc i c ?_⟩
  rw [List.getElem?_map, List.getElem?_take] at hi
  rw [List.getElem?_map]
  split at hi
  · exact hi
  · cases hi
theorem load_htB {w : World} {b o : Nat} {x : Sp} (h : w.rangeAt b o (htL x)) : (Instr.loadAt 29 (.pointer (some ⟨b, o, none⟩))).run Try.prog w = .ok (hitV x) w := range_load (xs := #[.int .u64 x.d, .int .u64 x.id]) h Try.underlying29 rfl hitT
def hc0 : Array Value := #[.int .u64 0, .int .u64 0]
def hitC (x : Sp) : Array Value := #[.int .u64 x.d, .int .u64 x.id]
theorem ht_put (W : World) (x : Sp) : (Instr.storeAt 29 (.pointer (some ⟨W.heap.size, 0, none⟩)) (hitV x)).run Try.prog (W.alloc (.cells hc0 29)) = .ok () ((W.alloc (.cells hc0 29)).setCells W.heap.size 0 (hitC x).toList) :=
  row_store (Blk.new W 29 hc0) (hitC x) rfl hitT (by simp [hitC, Value.oneCell'])
theorem ht_blk (W : World) (x : Sp) : Blk ((W.alloc (.cells hc0 29)).setCells W.heap.size 0 (hitC x).toList) W.heap.size 29 (hitC x) := (Blk.new W 29 hc0).put _ rfl
set_option maxRecDepth 100000 in
set_option maxHeartbeats 2000000 in
theorem ex_search (A : Option Addr) (n c : Nat) (its : List ItX) (q : IS) (mask k : Int) (w : World) (hI : Its w w.heap.size A n its) (hq : q.Vec w w.heap.size) (hn : n ≤ 1048576) :
    Calls Try.prog 6 #[.slice A n c, q.v, .int .u64 mask, .int .i64 k] w (RetH ((sortSp (hitL q mask its)).take (min (max k 0) ((sortSp (hitL q mask its)).length : Int)).toNat) w) := by
  have HC := Lib.hid (ex_hits A n c its q mask w hI hq hn)
  obtain ⟨L, hL⟩ : ∃ L, sortSp (hitL q mask its) = L := ⟨_, rfl⟩
  rw [hL] at HC ⊢
  obtain ⟨m, hm⟩ : ∃ m : Nat, min (max k 0) (L.length : Int) = (m : Int) := ⟨(min (max k 0) (L.length : Int)).toNat, by omega⟩
  have HM : Hid (m ≤ L.length) := by show m ≤ _; omega
  have HT : Hid ((min (max k 0) (L.length : Int)).toNat = m) := by show _ = m; omega
  clear hI hq hn hL
  rw [HT.out]
  go_enter Try.func6, Try.ntmps6
  go_upto_region 2 with (go_at_call 18; (with_reducible refine HC.out.mono ?_); rintro e w1 ⟨g, n1, c1, rfl, hs, hc1, hc2, hb⟩; obtain rfl : L.length = n1 := (hs.len); have HS := Lib.hid hs; have HB := Lib.hid hb; have HC1 := Lib.hid hc1; have HC2 := Lib.hid hc2; clear hs hb hc1 hc2)
  have RS := run_hiH (some ⟨g, 0, none⟩) L.length c1 m (Nat.le_trans HM.out HC1.out) w1
  go_wp2_with fail
  go_ret
  exact ⟨g, m, c1, rfl, HS.out.take HM.out, Nat.le_trans HM.out HC1.out, HC2.out, HB.out⟩
/-- What Within tells. -/
def RetW (L : List Sp) (most : Int) (w : World) (e : Ending) (w' : World) : Prop := ∃ g K c, e = .returned (.slice (some ⟨g, 0, none⟩) K c) ∧ K ≤ L.length ∧ (∀ y, L[K]? = some y → most < y.d) ∧ Below w.heap.size w w'
set_option maxRecDepth 100000 in
set_option maxHeartbeats 2000000 in
theorem ex_within (A : Option Addr) (n c : Nat) (its : List ItX) (q : IS) (mask most : Int) (w : World) (hI : Its w w.heap.size A n its) (hq : q.Vec w w.heap.size) (hn : n ≤ 1048576) :
    Calls Try.prog 7 #[.slice A n c, q.v, .int .u64 mask, .int .u64 most] w (RetW (sortSp (hitL q mask its)) most w) := by
  have HC := Lib.hid (ex_hits A n c its q mask w hI hq hn)
  have HLE : Hid ((sortSp (hitL q mask its)).length ≤ 1048576) := by
    show _ ≤ _
    rw [sortSp_len, hitL, List.length_map]
    exact Nat.le_trans (List.length_filter_le _ _) (by rw [hI.len]; exact hn)
  obtain ⟨L, hL⟩ : ∃ L, sortSp (hitL q mask its) = L := ⟨_, rfl⟩
  rw [hL] at HC HLE ⊢
  clear hI hq hn hL
  go_enter Try.func7, Try.ntmps7
  go_wp2_with (go_at_call 18; (with_reducible refine HC.out.mono ?_); rintro e w1 ⟨g, n1, c1, rfl, hs, hc1, hc2, hb⟩; obtain rfl : L.length = n1 := (hs.len); have HS := Lib.hid hs; have HB := Lib.hid hb; have HC1 := Lib.hid hc1; have HC2 := Lib.hid hc2; clear hs hb hc1 hc2)
  have hn := HLE.out
  go_loopw [10] (fun i wr => ∃ k : Nat, k ≤ L.length ∧ i = .int .i64 (k : Nat) ∧ Hid (w1 = wr)) (fun i _ => L.length - (intOf i).toNat)
  case atStart => exact ⟨0, Nat.zero_le _, rfl, rfl⟩
  case round =>
    obtain ⟨k, hk, rfl, HW⟩ := hrel
    have hw := HW.out
    subst hw
    clear HW
    by_cases hlt : k < L.length
    · obtain ⟨b, o, x, e, hbl, hx, hr⟩ := HS.out.at_ hlt
      injection e with e; injection e with e1 e2 _
      subst e1 e2
      have z0 : w1.cell? ⟨g, 0 + k * 2, none⟩ = some (.int .u64 x.d) := by simpa using range_cell hr 0 (v := .int .u64 x.d) rfl
      rw [Nat.zero_add] at z0
      have tl : decide ((k : Int) < (L.length : Int)) = true := decide_eq_true (by omega)
      have HX := Lib.hid hx
      clear hx hr
      by_cases hd : x.d ≤ most
      · have td : decide (x.d ≤ most) = true := decide_eq_true hd
        clear hd
        go_wp2_with fail
        go_roundw
        case rel => exact ⟨k + 1, by omega, by go_num, trivial⟩
        case measure => simp [intOf]; omega
      · have td : decide (x.d ≤ most) = false := decide_eq_false hd
        have HD := Lib.hid hd
        clear hd
        have RS := run_hiH (some ⟨g, 0, none⟩) L.length c1 k (by have := HC1.out; omega) w1
        go_wp2_with fail
        go_ret
        exact ⟨g, k, c1, rfl, hk, fun y hy => by have := HX.out; rw [this] at hy; injection hy with hy; subst hy; exact HD.out, HB.out⟩
    · obtain rfl : k = L.length := by omega
      have RS := run_hiH (some ⟨g, 0, none⟩) L.length c1 L.length HC1.out w1
      go_wp2_with fail
      go_ret
      exact ⟨g, L.length, c1, rfl, Nat.le_refl _, fun y hy => by simp at hy, HB.out⟩
def aheadH (h : Sp) (x : Sp) : Bool := decide (ordI x h < 0)
set_option maxRecDepth 100000 in
set_option maxHeartbeats 2000000 in
theorem ex_place (A : Option Addr) (n c : Nat) (its : List ItX) (q : IS) (mask : Int) (h : Sp) (w : World) (hI : Its w w.heap.size A n its) (hq : q.Vec w w.heap.size) (hn : n ≤ 1048576) :
    Calls Try.prog 8 #[.slice A n c, q.v, .int .u64 mask, hitV h] w (fun e w' => e = .returned (.int .i64 ((sortSp (hitL q mask its)).countP (aheadH h) : Nat)) ∧ Below w.heap.size w w') := by
  obtain ⟨w0, hw0⟩ : ∃ x, w.alloc (.cells #[.int .u64 h.d, .int .u64 h.id] 29) = x := ⟨_, rfl⟩
  have b0 : Below w.heap.size w w0 := by rw [← hw0]; exact (Below.refl _ w).alloc (Nat.le_refl _) _
  have k0 : Blk w0 w.heap.size 29 #[.int .u64 h.d, .int .u64 h.id] := by rw [← hw0]; exact Blk.new _ _ _
  have HK0 := Lib.hid k0
  have HB0 := Lib.hid b0
  have HC := Lib.hid (ex_hits A n c its q mask w0 (hI.on (Nat.le_refl _) b0) ((hq.below b0).more b0.size) hn)
  have HLE : Hid ((sortSp (hitL q mask its)).length ≤ 1048576) := by
    show _ ≤ _
    rw [sortSp_len, hitL, List.length_map]
    exact Nat.le_trans (List.length_filter_le _ _) (by rw [hI.len]; exact hn)
  obtain ⟨L, hL⟩ : ∃ L, sortSp (hitL q mask its) = L := ⟨_, rfl⟩
  rw [hL] at HC HLE ⊢
  clear hI hq hn hL b0 k0
  unfold hitV
  go_enter Try.func8, Try.ntmps8
  go_upto_region 1 with fail
  (try rw [hw0])
  clear hw0
  go_wp2_with (go_at_call 18; (with_reducible refine HC.out.mono ?_); rintro e w1 ⟨g, n1, c1, rfl, hs, hc1, hc2, hb⟩; obtain rfl : L.length = n1 := (hs.len); have HS := Lib.hid hs; have HB := Lib.hid hb; clear hs hb hc1 hc2)
  have hn := HLE.out
  go_loopw [17, 9] (fun i p wr => ∃ k : Nat, k ≤ L.length ∧ i = .int .i64 (k : Nat) ∧ p = .int .i64 ((L.take k).countP (aheadH h) : Nat) ∧ Hid (Below w1.heap.size w1 wr)) (fun i _ _ => L.length - (intOf i).toNat)
  case atStart => exact ⟨0, Nat.zero_le _, rfl, rfl, Below.refl _ _⟩
  case round =>
    obtain ⟨k, hk, rfl, rfl, HW⟩ := hrel
    obtain ⟨P, hP⟩ : ∃ P : Nat, (L.take k).countP (aheadH h) = P := ⟨_, rfl⟩
    rw [hP]
    have HP := Lib.hid hP
    have hpl : P ≤ 1048576 := by rw [← hP]; exact Nat.le_trans List.countP_le_length (by simp; omega)
    clear hP
    by_cases hlt : k < L.length
    · obtain ⟨b, o, x, e, hbl, hx, hr⟩ := (HtAt.below HS.out HW.out).at_ hlt
      injection e with e; injection e with e1 e2 _
      subst e1 e2
      rw [Nat.zero_add] at hr
      have LI := load_htB hr
      have hst := take_stepX hx
      obtain ⟨W3, hW3⟩ : ∃ W3, (wr.alloc (.cells hc0 29)).setCells wr.heap.size 0 (hitC x).toList = W3 := ⟨_, rfl⟩
      have SI := ht_put wr x
      rw [hW3] at SI
      have bx : Blk W3 wr.heap.size 29 (hitC x) := by rw [← hW3]; exact ht_blk wr x
      have b3 : Below wr.heap.size wr W3 := by rw [← hW3]; exact put_bel _ _ _
      have L1 := hit_load (x := x) bx
      have HB3 : Hid (Below w1.heap.size w1 W3) := HW.out.trans (b3.mono HW.out.size)
      have L2 := hit_load (x := h) ((HK0.out.below HB.out HK0.out.lt).below HB3.out (Nat.lt_of_lt_of_le HK0.out.lt HB.out.size))
      have HR := Lib.hid (rank_hit x h W3)
      clear hW3 bx b3 hr hbl hx
      unfold hitV at LI SI L1 L2 HR
      cases ha : aheadH h x
      · have HE : Hid ((L.take (k + 1)).countP (aheadH h) = P) := by show _ = _; rw [hst, List.countP_append, HP.out]; simp [ha]
        clear hst
        go_upto_region 5 with (first | refine wpList_loadE LI _ rfl rfl rfl ?_ | refine wpList_storeE SI _ _ rfl rfl rfl rfl ?_)
        clear LI SI
        have ha' : decide (ordI x h < 0) = false := ha
        rw [ha'] at HR
        go_wp2_with (first | refine wpList_loadE L1 _ rfl rfl rfl ?_ | refine wpList_loadE L2 _ rfl rfl rfl ?_ | (go_at_call 9; (with_reducible refine HR.out.mono ?_); rintro e V ⟨rfl, g1⟩; have HV : Hid (Below w1.heap.size w1 V) := (HB3.out.trans (g1.below.mono HB3.out.size)); clear g1 L1 L2))
        go_roundw
        case rel => exact ⟨k + 1, by omega, by go_num, by rw [HE.out], HV.out⟩
        case measure => simp [intOf]; omega
      · have HE : Hid ((L.take (k + 1)).countP (aheadH h) = P + 1) := by show _ = _; rw [hst, List.countP_append, HP.out]; simp [ha]
        clear hst
        go_upto_region 5 with (first | refine wpList_loadE LI _ rfl rfl rfl ?_ | refine wpList_storeE SI _ _ rfl rfl rfl rfl ?_)
        clear LI SI
        have ha' : decide (ordI x h < 0) = true := ha
        rw [ha'] at HR
        go_wp2_with (first | refine wpList_loadE L1 _ rfl rfl rfl ?_ | refine wpList_loadE L2 _ rfl rfl rfl ?_ | (go_at_call 9; (with_reducible refine HR.out.mono ?_); rintro e V ⟨rfl, g1⟩; have HV : Hid (Below w1.heap.size w1 V) := (HB3.out.trans (g1.below.mono HB3.out.size)); clear g1 L1 L2))
        go_roundw
        case rel => exact ⟨k + 1, by omega, by go_num, by rw [HE.out]; go_num, HV.out⟩
        case measure => simp [intOf]; omega
    · obtain rfl : k = L.length := by omega
      rw [List.take_length] at HP
      go_wp2_with fail
      go_ret
      exact ⟨by rw [HP.out]; rfl, HB0.out.trans ((HB.out.mono HB0.out.size).trans (HW.out.mono (Nat.le_trans HB0.out.size HB.out.size)))⟩
end Go.Proofs.Ytpbjndjbpihfmaa
