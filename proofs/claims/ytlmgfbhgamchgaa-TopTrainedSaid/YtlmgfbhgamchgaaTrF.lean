/- quant.Encode, Decode. -/
import Derived.Test.YtlmgfbhgamchgaaTrE
namespace Go.Proofs.Ytlmgfbhgamchgaa
open Go.RowKit
/-- A code of one part. -/
def RetE (m : Nat) (w : World) (e : Ending) (w' : World) : Prop := ∃ E, e = .returned (.tuple #[.slice (some ⟨E, 0, none⟩) 1 1, .int .i64 0]) ∧ E < w'.heap.size ∧ w'.cell? ⟨E, 0, none⟩ = some (.int .i64 (m : Nat)) ∧ Below w.heap.size w w'
set_option maxRecDepth 100000 in
set_option maxHeartbeats 2000000 in
theorem q_encode (g : Nat) (A : Option Addr) (n c : Nat) (l : List Vc) (p : Vc) (w : World) (hbk : Bk w w.heap.size g A n c l) (h1 : 1 ≤ n) (hn : n ≤ 30) (hp : p.At w w.heap.size)
    (hd1 : 1 ≤ p.n) (hd2 : p.n ≤ 4096) (hr0 : rightL (vxs l) = true) (hdim : (lg (vxs l) 0).length = p.n) (hpo : OkV p.n p.xs) :
    Calls Try.prog 17 #[.slice (some ⟨g, 0, none⟩) 1 1, p.v] w (RetE (gOf (vxs l) p.xs).1 w) := by
  obtain ⟨d, hd⟩ : ∃ d : Nat → Nat, (fun j => distE p.xs (lg (vxs l) j)) = d := ⟨_, rfl⟩
  have HT := Lib.hid (q_table g A n c l p d w hbk h1 hn hp (fun j => by rw [← hd]) hd1 hd2 hr0 hdim hpo)
  have hln : (vxs l).length = n := by rw [vxs_len, hbk.2.2.1.len]
  have hgo : gOf (vxs l) p.xs = grpL d (n - 1) := by unfold gOf; rw [hd, hln]
  have hdt : ∀ j, d j < 18446744073709551616 := fun j => by rw [← hd]; exact Nat.lt_of_le_of_lt (dist_top _ _) (by decide)
  rw [hgo]
  obtain ⟨g1, g2, g3, g4⟩ := grpL_spec d (n - 1)
  have HMI := Lib.hid (fun A' c' (W : World) (hr : Rd W W.heap.size A' n ((tabL d n).map (.int .u64))) => sl_min A' n c' d W W.heap.size hr h1 hn hdt)
  have HIX := Lib.hid (fun A' c' (W : World) (hr : Rd W W.heap.size A' n ((tabL d n).map (.int .u64))) => sl_index A' n c' (grpL d (n - 1)).1 (grpL d (n - 1)).2 d W W.heap.size hr (by omega) hn g2.symm (fun j hj => by have := g4 j hj; omega))
  obtain ⟨m, hm⟩ : ∃ m, (grpL d (n - 1)).1 = m := ⟨_, rfl⟩
  obtain ⟨x, hx⟩ : ∃ x, (grpL d (n - 1)).2 = x := ⟨_, rfl⟩
  rw [hm] at HIX ⊢
  rw [hx] at HMI HIX
  have hmk : ∀ (kl kc : IntKind) (W : World), (Instr.makeSlice 30 (.int kl 1) (.int kc 1)).run Try.prog W = .ok (.slice (some ⟨W.heap.size, 0, none⟩) 1 1) (W.alloc (.cells #[.int .i64 0] 3)) := fun kl kc W => by
    have h := run_make_row' (P := Try.prog) 30 3 (.int .i64 0) 8 Try.underlying30 info_intT rfl kl kc 1 (by omega) (by omega) W
    rw [show madeCells #[Value.int .i64 0] 1 = #[.int .i64 0] from by kernel_rfl] at h
    exact h
  obtain ⟨PA, pn, pc, pxs⟩ := p
  simp only [Vc.v] at HT ⊢
  clear hbk hp hd hr0 hdim hpo hln hgo hdt g1 g2 g3 g4 hm hx hd1 hd2
  go_enter Try.func17, Try.ntmps17
  go_upto_region 4 with (go_at_call 39; (with_reducible refine HT.out.mono ?_); rintro e w2 ⟨T, A', c', rfl, hTl, hTc, hrd, hb2⟩; have B2 := Lib.hid hb2; have R2 := Lib.hid hrd; have TL := Lib.hid hTl; have TC := Lib.hid hTc; clear hb2 hrd hTl hTc)
  obtain ⟨w3, hw3⟩ : ∃ x, w2.alloc (.cells #[.int .i64 0] 3) = x := ⟨_, rfl⟩
  have b3 : Below w2.heap.size w2 w3 := by rw [← hw3]; exact bel_boxT _ _
  have k3 : Blk w3 w2.heap.size 3 #[.int .i64 0] := by rw [← hw3]; exact Blk.new _ _ _
  have K3 := Lib.hid k3
  have B3 : Hid (Below w.heap.size w w3) := B2.out.trans (b3.mono B2.out.size)
  have R3 : Hid (Rd w3 w3.heap.size A' n ((tabL d n).map (.int .u64))) := (R2.out.below b3).more b3.size
  have T3 : Hid (w3.cell? ⟨T, 0, none⟩ = some (.slice A' n c')) := (b3.cell (p := ⟨T, 0, none⟩) TL.out).trans TC.out
  have HMI3 := Lib.hid (HMI.out A' c' w3 R3.out)
  have HIX3 := Lib.hid (HIX.out A' c' w3 R3.out)
  have hs2 := B2.out.size
  have hs3 := k3.lt
  have hks : (w3.setCell ⟨w2.heap.size, 0, none⟩ (.int .i64 (m : Nat))).heap.size = w3.heap.size := by simp [World.setCell]
  have HFin : Hid (RetE m w (.returned (.tuple #[.slice (some ⟨w2.heap.size, 0, none⟩) 1 1, .int .i64 0])) (w3.setCell ⟨w2.heap.size, 0, none⟩ (.int .i64 (m : Nat)))) := ⟨_, rfl, by rw [hks]; exact hs3, (k3.set_ 0 _).cell 0, B3.out.setCell (p := ⟨w2.heap.size, 0, none⟩) hs2 _⟩
  obtain ⟨wf, hwf⟩ : ∃ x : World, w3.setCell ⟨w2.heap.size, 0, none⟩ (.int .i64 (m : Nat)) = x := ⟨_, rfl⟩
  rw [hwf] at HFin
  clear HMI HIX HT b3 k3 hks
  go_wp2_with fail
  (try rw [hw3])
  clear hmk hw3
  go_loopw [9, 10, 25] (fun _ _ s25 wr => ∃ k : Nat, k ≤ 1 ∧ s25 = .int .i64 k ∧ Hid (k = 0 → wr = w3) ∧ Hid (k = 1 → wr = wf)) (fun _ _ s25 _ => 1 - (intOf s25).toNat)
  case atStart => exact ⟨0, Nat.zero_le _, rfl, fun _ => rfl, fun h => by omega⟩
  case round =>
    obtain ⟨k, hk, rfl, hz, ho⟩ := hrel
    by_cases h0 : k = 0
    · subst h0
      obtain rfl := hz.out rfl
      have t3 := T3.out
      have hfz := K3.out.frozen 0
      have hc3 := K3.out.cell 0
      clear hz ho
      go_wp2_with (first
        | (go_at_call 41; (with_reducible refine HMI3.out.mono ?_); rintro e w' ⟨rfl, rfl⟩)
        | (go_at_call 40; (with_reducible refine HIX3.out.mono ?_); rintro e w' ⟨rfl, rfl⟩))
      (try rw [hwf])
      clear t3 hfz hc3
      go_roundw
      case rel => exact ⟨1, Nat.le_refl _, by go_num, fun h => by omega, fun _ => by first | rfl | trivial⟩
      case measure => simp [intOf]
    · obtain rfl : k = 1 := by omega
      obtain rfl := ho.out rfl
      clear hz ho
      go_wp2
      refine bodyPost_ret (v := .tuple #[.slice (some ⟨w2.heap.size, 0, none⟩) 1 1, .int .i64 0]) (by simp [results, Try.results17, go_sem]) rfl ?_
      exact HFin.out
/-- A vector that is told. -/
def RetD (xs : List Int) (w : World) (e : Ending) (w' : World) : Prop := ∃ x : Vc, e = .returned (.tuple #[x.v, .int .i64 0]) ∧ x.At w' w'.heap.size ∧ x.xs = xs ∧ Below w.heap.size w w'
theorem info_i32T : (Try.prog.info? 21).map (fun i => (i.zero, i.size, i.bytes)) = some (some (.int .i32 0), 1, 4) := by kernel_rfl
theorem own_vc {w : World} {base g n c : Nat} {xs : List Int} (h : w.ownsRow base 21 1 (.slice (some ⟨g, 0, none⟩) n c) n (xs.map (.int .i32))) (hb : ∀ z ∈ xs, -2147483648 ≤ z ∧ z ≤ 2147483647) : Vc.At w w.heap.size ⟨some ⟨g, 0, none⟩, n, c, xs⟩ := by
  refine ⟨(fun e => by cases e), ?_, Rd.of_own h, hb⟩
  rcases h.2 with ⟨q, _⟩ | ⟨g', cap, cur, q, _, _, h1, h2, _⟩
  · injection q with q _ _; cases q
  · injection q with _ _ q3
    subst q3
    unfold maxLen at h2
    exact ⟨h1, by show n ≤ _; omega⟩
set_option maxRecDepth 100000 in
set_option maxHeartbeats 2000000 in
theorem q_decode (g E : Nat) (A : Option Addr) (n c m : Nat) (l : List Vc) (w : World) (hbk : Bk w w.heap.size g A n c l) (h1 : 1 ≤ n) (hn : n ≤ 30) (hr0 : rightL (vxs l) = true)
    (hE : E < w.heap.size) (hEc : w.cell? ⟨E, 0, none⟩ = some (.int .i64 (m : Nat))) (hm : m < n) :
    Calls Try.prog 18 #[.slice (some ⟨g, 0, none⟩) 1 1, .slice (some ⟨E, 0, none⟩) 1 1] w (RetD (lg (vxs l) m) w) := by
  have HCK := Lib.hid (q_check g A n c l w hbk h1 hn)
  rw [hr0] at HCK
  obtain ⟨n0, hn1, hn2, _, hok⟩ := right_dim hr0 (by rw [vxs_len, hbk.2.2.1.len]; omega)
  obtain ⟨b, o, v, rfl, hb, hu, hat, hcv⟩ := hbk.2.2.1.at_ hm
  have hvl := hat.len
  have hv0 := (hok v.xs (List.mem_map.2 ⟨v, List.mem_of_getElem? hu, rfl⟩)).1
  rw [vxs_lg hu]
  have hg := hbk.1
  have hgc := hbk.2.1
  have HAT := Lib.hid hat
  obtain ⟨VA, vn, vc, vx⟩ := v
  simp only [Vc.v] at hcv hvl hv0 HAT ⊢
  have HB : Hid (b < w.heap.size) := hb
  have HG := Lib.hid hg
  have HE := Lib.hid hE
  have HGC := Lib.hid hgc
  have HEC := Lib.hid hEc
  have HCV := Lib.hid hcv
  have hvn : 1 ≤ vn ∧ vn ≤ 4096 := by omega
  obtain ⟨hv1, hv2⟩ := hvn
  have t1 : decide ((m : Int) < 0) = false := by simp
  have t2 : decide (n ≤ m) = false := by simp; omega
  clear hbk hr0 hu hat hg hgc hE hEc hcv hok hvl hv0 hb
  go_enter Try.func18, Try.ntmps18
  go_upto_region 4 with (go_at_call 12; (with_reducible refine HCK.out.mono ?_); rintro e w2 ⟨rfl, hb2⟩; have B2 := Lib.hid hb2; clear hb2)
  have HAT2 : Hid (Vc.At w2 w.heap.size ⟨VA, vn, vc, vx⟩) := HAT.out.below B2.out
  have HGC2 : Hid (w2.cell? ⟨g, 0, none⟩ = some (.slice (some ⟨b, o, none⟩) n c)) := (B2.out.cell (p := ⟨g, 0, none⟩) HG.out).trans HGC.out
  have HEC2 : Hid (w2.cell? ⟨E, 0, none⟩ = some (.int .i64 (m : Nat))) := (B2.out.cell (p := ⟨E, 0, none⟩) HE.out).trans HEC.out
  have HCV2 : Hid (w2.cell? ⟨b, o + m, none⟩ = some (.slice VA vn vc)) := (B2.out.cell (p := ⟨b, o + m, none⟩) HB.out).trans HCV.out
  have hs2 := B2.out.size
  clear HCK HAT HGC HEC HCV
  go_wp2_with fail
  go_loopw [7, 8, 9, 22] (fun s7 _ _ s22 wr => ∃ k : Nat, k ≤ 1 ∧ s22 = .int .i64 k ∧ Hid (k = 0 → wr = w2 ∧ s7 = .slice none 0 0) ∧ Hid (k = 1 → ∃ x : Vc, s7 = x.v ∧ x.At wr wr.heap.size ∧ x.xs = vx ∧ Below w.heap.size w wr)) (fun _ _ _ s22 _ => 1 - (intOf s22).toNat)
  case atStart => exact ⟨0, Nat.zero_le _, rfl, fun _ => ⟨rfl, rfl⟩, fun h => by omega⟩
  case round =>
    obtain ⟨k, hk, rfl, hz, ho⟩ := hrel
    by_cases h0 : k = 0
    · subst h0
      obtain ⟨rfl, rfl⟩ := hz.out rfl
      have q1 := HGC2.out
      have q2 := HEC2.out
      have q3 := HCV2.out
      obtain ⟨vb, vo, rfl, hvb, hvc⟩ := HAT2.out.2.2.1.2 (show 0 < vn by omega)
      have HVC := Lib.hid hvc
      have HVB : Hid (vb < w.heap.size) := hvb
      obtain ⟨i, hi, hiz, hz1, hz2⟩ := info_parts info_i32T
      have hlen := HAT2.out.len
      simp only at hlen
      clear hz ho hvc hvb
      go_wp2_with (at_builtin; refine wpList_append_lies wr rfl (.tmp 38) (.tmp 45) 22 rfl w.heap.size 21 i (.int .i32 0) 1 4 Try.underlying22 hi hiz hz1 hz2 rfl (by decide) (.slice none 0 0) 0 [] rfl (World.ownsRow_nil _ _ _ _) ⟨vb, vo, none⟩ vn vc (vx.map (.int .i32)) rfl (by rw [List.length_map, hlen, Nat.mul_one]) (by intro j u hu; rw [Addr.add_lit]; exact HVC.out j u hu) (by intro u hu; obtain ⟨z, _, rfl⟩ := List.mem_map.1 hu; rfl) (by omega) (by unfold maxLen; omega) (by omega) hs2 _ rfl ?_; intro g2 c2 w3 ho3 hgr3 hat3 hlt3; rw [List.nil_append, Nat.zero_add] at ho3; have HX3 : Hid (∃ x : Vc, Value.slice (some ⟨g2, 0, none⟩) vn c2 = x.v ∧ x.At w3 w3.heap.size ∧ x.xs = vx ∧ Below w.heap.size w w3) := ⟨⟨some ⟨g2, 0, none⟩, vn, c2, vx⟩, rfl, own_vc ho3 HAT2.out.2.2.2, rfl, B2.out.grown hgr3 hs2 (fun k hk => by cases hk)⟩; clear ho3 hgr3 hat3 hlt3)
      clear q1 q2 q3 hi hiz hz1 hz2
      go_roundw
      case rel => exact ⟨1, Nat.le_refl _, by go_num, fun h => by omega, fun _ => HX3.out⟩
      case measure => simp [intOf]
    · obtain rfl : k = 1 := by omega
      obtain ⟨x, rfl, hxa, hxx, hxb⟩ := ho.out rfl
      have HX : Hid (RetD vx w (.returned (.tuple #[x.v, .int .i64 0])) wr) := ⟨x, rfl, hxa, hxx, hxb⟩
      obtain ⟨xA, xn, xc, xx⟩ := x
      simp only [Vc.v] at HX ⊢
      clear hz ho hxa hxx hxb
      go_wp2
      refine bodyPost_ret (v := .tuple #[.slice xA xn xc, .int .i64 0]) (by simp [results, Try.results18, go_sem]) rfl ?_
      exact HX.out
end Go.Proofs.Ytlmgfbhgamchgaa
