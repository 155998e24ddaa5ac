/- Answers that the document gives: begins7. -/
import Derived.Test.YtpbjndjbpihfmaaExB
import Derived.Test.YtpbjndjbpihfmaaRkW
namespace Go.Proofs.Ytpbjndjbpihfmaa
open Go.RowKit
set_option maxRecDepth 100000 in
theorem down0 (w : World) : Calls Try.prog 17 #[.agg #[.slice none 0 0, .int .i64 0, .int .i64 0], .slice none 0 0] w fun e w' => e = .returned (.tuple #[.int .i64 0, .bool false]) ∧ Below w.heap.size w w' := by
  obtain ⟨w1, hw1⟩ : ∃ x, w.alloc (.cells (pgL none 0 0 0 0) 36) = x := ⟨_, rfl⟩
  obtain ⟨C1, b1⟩ := box_plane hw1
  have HB := Lib.hid b1
  have c1 : w1.cell? ⟨w.heap.size, 1, none⟩ = some (.int .i64 0) := C1.cell 1
  have LP := plane_load C1
  have hg : PgAt w1 w1.heap.size none 0 0 [] := ⟨fun _ => ⟨rfl, rfl⟩, by decide, Rs.nil_, fun d hd => by cases hd⟩
  have HT := Lib.hid (pl_there none 0 0 [] 0 0 0 w1 hg)
  have e0 : thB [] 0 = false := by decide
  rw [e0] at HT
  unfold pgL at hw1 LP HT
  clear hg e0 C1 b1
  go_enter Try.func17, Try.ntmps17
  go_upto_region 1 with fail
  (try rw [hw1])
  clear hw1
  go_wp2_with (first | refine wpList_loadE LP _ rfl rfl rfl ?_ | (go_at_call 11; (with_reducible refine HT.out.mono ?_); rintro e V ⟨rfl, hb⟩; have HB2 := Lib.hid (HB.out.trans (hb.mono HB.out.size)); clear hb LP c1))
  go_ret2
  exact ⟨rfl, HB2.out⟩
theorem hit1 (q : IS) (v : IS) (hq : q.xs = [0]) (hv : v.xs = [2]) : sortSp (hitL q 0 [⟨1, v, 0⟩]) = [⟨4, 1, 0⟩] := by
  have e1 : hitL q 0 [⟨1, v, 0⟩] = [⟨4, 1, 0⟩] := by
    unfold hitL spX dX
    rw [List.filter_cons, if_pos (show hasX 0 0 = true by decide +kernel)]
    simp only [List.filter_nil, List.map_cons, List.map_nil, hq, hv]
    have : (distE [0] [2] : Nat) = 4 := by decide +kernel
    rw [this]
    rfl
  rw [e1]
  unfold sortSp
  simp
def nd5 : ND := ⟨5, ⟨none, 0, 0, []⟩, 0, 0, none, 0, 0, [], 0, 0⟩
def two5 : Array Value := #[.int .u64 0, .slice none 0 0, .int .u64 0, .int .i64 0, .slice none 0 0, .int .i64 0, .int .i64 0, .int .u64 5, .slice none 0 0, .int .u64 0, .int .i64 0, .slice none 0 0, .int .i64 0, .int .i64 0]
theorem two_nodes (w : World) : PgAt (w.alloc (.cells two5 55)) (w.alloc (.cells two5 55)).heap.size (some ⟨w.heap.size, 0, none⟩) 2 2 [nd0, nd5] := by
  have k := Blk.new w 55 two5
  refine ⟨fun e => (by cases e), by decide, ⟨rfl, fun c hc => by rcases (by simpa using hc : c = _ ∨ c = _) with rfl | rfl <;> rfl, fun _ => ⟨w.heap.size, 0, rfl, k.lt, fun i c hi j v hv => ?_⟩⟩, fun d hd => ?_⟩
  · rw [Nat.zero_add, k.cell, ← Array.getElem?_toList]
    rcases i with _ | _ | i
    · injection hi with hi
      subst hi
      rw [Nat.zero_mul, Nat.zero_add]
      have hj : j < 7 := (List.getElem?_eq_some_iff.1 hv).1
      rcases (by omega : j = 0 ∨ j = 1 ∨ j = 2 ∨ j = 3 ∨ j = 4 ∨ j = 5 ∨ j = 6) with rfl | rfl | rfl | rfl | rfl | rfl | rfl <;> exact hv
    · injection hi with hi
      subst hi
      have hj : j < 7 := (List.getElem?_eq_some_iff.1 hv).1
      rcases (by omega : j = 0 ∨ j = 1 ∨ j = 2 ∨ j = 3 ∨ j = 4 ∨ j = 5 ∨ j = 6) with rfl | rfl | rfl | rfl | rfl | rfl | rfl <;> exact hv
    · cases hi
  · rcases (by simpa using hd : d = nd0 ∨ d = nd5) with rfl | rfl
    · exact ⟨⟨fun _ => ⟨rfl, rfl⟩, Nat.zero_le _, Rd.nil_, (fun x hx => by cases hx)⟩, fun _ => ⟨rfl, rfl⟩, Nat.zero_le _, Rs.nil_, (fun l hl => by cases hl), rfl, rfl, rfl, rfl, (fun l hl => by cases hl)⟩
    · exact ⟨⟨fun _ => ⟨rfl, rfl⟩, Nat.zero_le _, Rd.nil_, (fun x hx => by cases hx)⟩, fun _ => ⟨rfl, rfl⟩, Nat.zero_le _, Rs.nil_, (fun l hl => by cases hl), rfl, rfl, rfl, rfl, (fun l hl => by cases hl)⟩
theorem field_spot (d i s : Int) (w : World) : (Instr.field 44 (.agg #[.int .u64 d, .int .u64 i, .int .i64 s]) 0).run Try.prog w = .ok (.agg #[.int .u64 d, .int .u64 i]) w := by kernel_rfl
theorem field_hit (d i : Int) (w : World) : (Instr.field 29 (.agg #[.int .u64 d, .int .u64 i]) 1).run Try.prog w = .ok (.int .u64 i) w := by kernel_rfl
theorem Blk.rdI {w : World} {g t : Nat} {k : IntKind} {zs : List Int} {n : Nat} (h : Blk w g t (zs.map (Value.int k)).toArray) (hn : zs.length = n) : Rd w w.heap.size (some ⟨g, 0, none⟩) n (zs.map (.int k)) :=
  ⟨by simpa using hn, fun _ => ⟨g, 0, rfl, h.lt, fun j u hu => by rw [Nat.zero_add, h.cell, ← Array.getElem?_toList]; exact hu⟩⟩
set_option maxRecDepth 100000 in
set_option maxHeartbeats 4000000 in
theorem begins7 (w : World) : Calls Try.prog 5 #[] w (RetB true w) := by
  obtain ⟨w1, hw1⟩ : ∃ x, w.alloc (.cells #[.int .i32 2] 21) = x := ⟨_, rfl⟩
  obtain ⟨w2, hw2⟩ : ∃ x, w1.alloc (.cells #[.int .u64 1, .slice (some ⟨w.heap.size, 0, none⟩) 1 1, .int .u64 0] 50) = x := ⟨_, rfl⟩
  obtain ⟨w3, hw3⟩ : ∃ x, w2.alloc (.cells #[.int .i32 0] 21) = x := ⟨_, rfl⟩
  have b1 : Below w.heap.size w w1 := by rw [← hw1]; exact bel_box _ _
  have b2 : Below w1.heap.size w1 w2 := by rw [← hw2]; exact bel_box _ _
  have b3 : Below w2.heap.size w2 w3 := by rw [← hw3]; exact bel_box _ _
  have k1 : Blk w1 w.heap.size 21 #[.int .i32 2] := by rw [← hw1]; exact Blk.new _ _ _
  have k2 : Blk w2 w1.heap.size 50 #[.int .u64 1, .slice (some ⟨w.heap.size, 0, none⟩) 1 1, .int .u64 0] := by rw [← hw2]; exact Blk.new _ _ _
  have k3 : Blk w3 w2.heap.size 21 #[.int .i32 0] := by rw [← hw3]; exact Blk.new _ _ _
  have k13 := (k1.below b2 k1.lt).below b3 (Nat.lt_of_lt_of_le k1.lt b2.size)
  have k23 := k2.below b3 k2.lt
  have HB3 : Hid (Below w.heap.size w w3) := b1.trans ((b2.mono b1.size).trans (b3.mono (Nat.le_trans b1.size b2.size)))
  have hq : IS.Vec w3 w3.heap.size ⟨some ⟨w2.heap.size, 0, none⟩, 1, 1, [0]⟩ := ⟨fun e => (by cases e), (show (1 : Nat) ≤ 9223372036854775807 by decide), Blk.rdI (zs := [0]) k3 rfl, fun z hz => by obtain rfl : z = 0 := (by simpa using hz); decide⟩
  have hv : IS.Vec w3 w3.heap.size ⟨some ⟨w.heap.size, 0, none⟩, 1, 1, [2]⟩ := ⟨fun e => (by cases e), (show (1 : Nat) ≤ 9223372036854775807 by decide), Blk.rdI (zs := [2]) k13 rfl, fun z hz => by obtain rfl : z = 2 := (by simpa using hz); decide⟩
  have hI : Its w3 w3.heap.size (some ⟨w1.heap.size, 0, none⟩) 1 [⟨1, ⟨some ⟨w.heap.size, 0, none⟩, 1, 1, [2]⟩, 0⟩] := by
    refine ⟨⟨rfl, fun c hc => by obtain rfl := (by simpa using hc); rfl, fun _ => ⟨w1.heap.size, 0, rfl, k23.lt, fun i c hi j u hu => ?_⟩⟩, fun d hd => by obtain rfl := (by simpa using hd); exact hv⟩
    cases i with
    | zero =>
      injection hi with hi
      subst hi
      rw [Nat.zero_mul, Nat.add_zero, Nat.zero_add, k23.cell, ← Array.getElem?_toList]
      exact hu
    | succ i => cases hi
  have HC := Lib.hid (ex_search (some ⟨w1.heap.size, 0, none⟩) 1 1 _ ⟨some ⟨w2.heap.size, 0, none⟩, 1, 1, [0]⟩ 0 1 w3 hI hq (by decide))
  rw [hit1 _ _ rfl rfl] at HC
  have et : List.take (min (max (1 : Int) 0) (([⟨4, 1, 0⟩] : List Sp).length : Int)).toNat ([⟨4, 1, 0⟩] : List Sp) = [⟨4, 1, 0⟩] := rfl
  rw [et] at HC
  simp only [IS.v] at HC
  clear b1 b2 b3 k1 k2 k3 k13 k23 hq hv hI et
  go_enter Try.func5, Try.ntmps5
  go_upto_region 1 with fail
  go_upto_region 2 with (go_at_call 6; (with_reducible refine HC.out.mono ?_); rintro e w4 ⟨g, n1, c1, rfl, hs, _, _, hb⟩; obtain rfl : 1 = n1 := (hs.len); have HS := Lib.hid hs; have HB4 := Lib.hid (HB3.out.trans (hb.mono HB3.out.size)); clear hs hb)
  clear hw1 hw2 hw3 HC
  have HD := Lib.hid (down0 w4)
  go_upto_region 3 with (go_at_call 17; (with_reducible refine HD.out.mono ?_); rintro e w5 ⟨rfl, hb⟩; have HB45 := Lib.hid hb; clear hb)
  obtain ⟨b, o, x, e, hbl, hx, hr⟩ := (HtAt.below HS.out HB45.out).at_ (show 0 < 1 by decide)
  injection e with e; injection e with e1 e2 _
  subst e1 e2
  have hx' : x = ⟨4, 1, 0⟩ := by simpa using hx.symm
  subst hx'
  have LI := load_htB hr
  unfold hitV at LI
  simp only [Nat.zero_mul, Nat.add_zero] at LI
  obtain ⟨w6, hw6⟩ : ∃ x, w5.alloc (.cells two5 55) = x := ⟨_, rfl⟩
  have hg6 := two_nodes w5
  rw [hw6] at hg6
  have HB6 : Hid (Below w.heap.size w w6) := by
    show Below _ _ _
    have h5 := HB4.out.trans (HB45.out.mono HB4.out.size)
    rw [← hw6]
    exact h5.trans ((bel_box w5 _).mono h5.size)
  have HW := Lib.hid (walk_spot (some ⟨w5.heap.size, 0, none⟩) 2 2 [nd0, nd5] 0 0 ⟨none, 0, 0, []⟩ 1 w6 hg6 ⟨fun _ => ⟨rfl, rfl⟩, by decide, Rd.nil_, fun z hz => by cases hz⟩ (by decide))
  have es : spV (spN ⟨none, 0, 0, []⟩ [nd0, nd5] 1) = .agg #[.int .u64 (distE [] [] : Nat), .int .u64 5, .int .i64 1] := rfl
  rw [es] at HW
  simp only [pgL, IS.v] at HW
  rw [show ((1 : Nat) : Int) = 1 from rfl] at HW
  unfold two5 at hw6
  have F1 := field_spot
  have F2 := field_hit
  clear hx hr hbl hg6 es
  go_wp2_with (first | refine wpList_loadE LI _ rfl rfl rfl ?_ | ((with_reducible refine wpList_loadG (op := ⟨some 20, _, _, _, _, _⟩) LI ?lgX ?lgW ?lgO ?lgE ?_); (case lgO => exact rfl); (case lgE => exact rfl); (case lgW => kernel_rfl)) | (go_at_call 14; (with_reducible refine HW.out.mono ?_); rintro e w7 ⟨rfl, hb⟩; have HB7 := Lib.hid (HB6.out.trans (hb.mono HB6.out.size)); clear hb))
  go_ret
  exact ⟨rfl, HB7.out⟩
end Go.Proofs.Ytpbjndjbpihfmaa
