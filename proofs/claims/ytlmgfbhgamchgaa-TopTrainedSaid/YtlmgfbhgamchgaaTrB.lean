/- A book of one part: quant.Check, Dim, fits. -/
import Derived.Test.YtlmgfbhgamchgaaTrA
import Derived.Test.YtlmgfbhgamchgaaTrQ
namespace Go.Proofs.Ytlmgfbhgamchgaa
open Go.RowKit
/-- A book of one part. -/
def Bk (w : World) (B g : Nat) (A : Option Addr) (n c : Nat) (l : List Vc) : Prop := g < B ∧ w.cell? ⟨g, 0, none⟩ = some (.slice A n c) ∧ Vcs w B A n l ∧ n ≤ c
theorem Bk.below {w w' : World} {B g n c : Nat} {A : Option Addr} {l : List Vc} (h : Bk w B g A n c l) (hb : Below B w w') : Bk w' B g A n c l := ⟨h.1, (hb.cell (p := ⟨g, 0, none⟩) h.1).trans h.2.1, h.2.2.1.below hb, h.2.2.2⟩
theorem Bk.more {w : World} {B B' g n c : Nat} {A : Option Addr} {l : List Vc} (h : Bk w B g A n c l) (hB : B ≤ B') : Bk w B' g A n c l := ⟨Nat.lt_of_lt_of_le h.1 hB, h.2.1, h.2.2.1.more hB, h.2.2.2⟩
theorem Bk.on {w w' : World} {B g n c : Nat} {A : Option Addr} {l : List Vc} (h : Bk w B g A n c l) (hB : B ≤ w.heap.size) (hb : Below w.heap.size w w') : Bk w' w'.heap.size g A n c l := ((h.more hB).below hb).more hb.size
theorem right_dim {zss : List (List Int)} (h : rightL zss = true) (h0 : 0 < zss.length) : ∃ n, 1 ≤ n ∧ n ≤ 4096 ∧ (lg zss 0).length = n ∧ ∀ c ∈ zss, OkV n c := by
  have h1 : ∀ c ∈ zss, chkV c (lg zss 0).length = true := fun c hc => by
    unfold rightL at h
    have := List.any_eq_false.1 (by simpa using h : zss.any (badC (lg zss 0).length) = false) c hc
    unfold badC at this
    simpa using this
  have h2 := h1 _ (lg_mem h0)
  have hn : 1 ≤ (lg zss 0).length ∧ (lg zss 0).length ≤ 4096 := by
    unfold chkV at h2
    rw [Bool.and_eq_true, decide_eq_true_iff] at h2
    omega
  exact ⟨_, hn.1, hn.2, rfl, fun c hc => (chkV_ok hn.1 hn.2).1 (h1 c hc)⟩
theorem right_of_ok {zss : List (List Int)} {n : Nat} (h1 : 1 ≤ n) (h2 : n ≤ 4096) (h0 : 0 < zss.length) (h : ∀ c ∈ zss, OkV n c) : rightL zss = true := by
  have hl : (lg zss 0).length = n := (h _ (lg_mem h0)).1
  unfold rightL
  rw [Bool.not_eq_true', List.any_eq_false]
  intro c hc
  unfold badC
  rw [hl, (chkV_ok h1 h2).2 (h c hc)]
  decide
set_option maxRecDepth 100000 in
set_option maxHeartbeats 1000000 in
theorem q_check (g : Nat) (A : Option Addr) (n c : Nat) (l : List Vc) (w : World) (hb : Bk w w.heap.size g A n c l) (h1 : 1 ≤ n) (h2 : n ≤ 30) :
    Calls Try.prog 12 #[.slice (some ⟨g, 0, none⟩) 1 1] w fun e w' => e = .returned (.int .i64 (if rightL (vxs l) then 0 else 7)) ∧ Below w.heap.size w w' := by
  obtain ⟨hg, hc, hr, _⟩ := hb
  have HQ := Lib.hid (q_right A n c l w hr h1 (by omega))
  cases hk : rightL (vxs l) with
  | false =>
    rw [hk] at HQ
    clear hr hk
    go_enter Try.func12, Try.ntmps12
    go_wp2_with fail
    go_loopw [3, 5, 8] (fun s3 _ s8 wr => wr = w ∧ s8 = .int .i64 0 ∧ s3 = .int .i64 4096) (fun _ _ _ _ => 0)
    case atStart => exact ⟨rfl, rfl, rfl⟩
    case round =>
      obtain ⟨rfl, rfl, rfl⟩ := hrel
      go_wp2_with (go_at_call 32; (with_reducible refine HQ.out.mono ?_); rintro e w' ⟨rfl, B1⟩; replace B1 := Lib.hid B1)
      go_ret
      exact ⟨rfl, B1.out⟩
  | true =>
    rw [hk] at HQ
    obtain ⟨n0, hn1, hn2, hl0, _⟩ := right_dim hk (by rw [vxs_len, hr.len]; omega)
    obtain ⟨b, o, v, rfl, hb, hu, hat, hcc⟩ := hr.at_ (i := 0) (by omega)
    have hvl := hat.len
    rw [vxs_lg hu, hvl] at hl0
    obtain ⟨VA, vn, vc, xs⟩ := v
    simp only [Vc.v] at hcc hl0
    subst hl0
    rw [Nat.add_zero] at hcc
    have t1 : decide (4096 < (vn : Int)) = false := by simp; omega
    have t2 : decide (4096 < vn) = false := by simp; omega
    have HG : Hid (g < w.heap.size) := hg
    have HBB : Hid (b < w.heap.size) := hb
    have HC := Lib.hid hc
    have HCC := Lib.hid hcc
    clear hr hk hu hat hvl hc hcc hg hb
    go_enter Try.func12, Try.ntmps12
    go_wp2_with fail
    go_loopw [3, 5, 8] (fun s3 _ s8 wr => ∃ k : Nat, k ≤ 1 ∧ s8 = .int .i64 k ∧ Hid (k = 0 → wr = w ∧ s3 = .int .i64 4096) ∧ Hid (Below w.heap.size w wr)) (fun _ _ s8 _ => 1 - (intOf s8).toNat)
    case atStart => exact ⟨0, Nat.zero_le _, rfl, fun _ => ⟨rfl, rfl⟩, Below.refl _ _⟩
    case round =>
      obtain ⟨k, hk, rfl, hz, hbw⟩ := hrel
      by_cases h0 : k = 0
      · subst h0
        obtain ⟨rfl, rfl⟩ := hz.out rfl
        have hc := HC.out
        go_upto_region 5 with fail
        go_wp2_with (go_at_call 32; (with_reducible refine HQ.out.mono ?_); rintro e w' ⟨rfl, B1⟩; have q1 := (B1.cell (p := ⟨b, o, none⟩) HBB.out).trans HCC.out; replace B1 := Lib.hid B1)
        go_roundw
        case rel => exact ⟨1, Nat.le_refl _, by go_num, fun h => by omega, B1⟩
        case measure => simp [intOf]
      · obtain rfl : k = 1 := by omega
        go_wp2
        go_ret
        exact ⟨rfl, hbw.out⟩
set_option maxRecDepth 100000 in
set_option maxHeartbeats 1000000 in
theorem q_dim (g : Nat) (A : Option Addr) (n c d : Nat) (l : List Vc) (w : World) (hb : Bk w w.heap.size g A n c l) (h1 : 1 ≤ n) (h2 : n ≤ 30) (hd2 : d ≤ 4096) (hr0 : rightL (vxs l) = true) (hd : (lg (vxs l) 0).length = d) :
    Calls Try.prog 13 #[.slice (some ⟨g, 0, none⟩) 1 1] w fun e w' => e = .returned (.int .i64 d) ∧ Below w.heap.size w w' := by
  have HQ := Lib.hid (q_check g A n c l w hb h1 h2)
  rw [hr0] at HQ
  obtain ⟨hg, hc, hr, _⟩ := hb
  obtain ⟨b, o, v, rfl, hb, hu, hat, hcc⟩ := hr.at_ (i := 0) (by omega)
  have hvl := hat.len
  rw [vxs_lg hu, hvl] at hd
  obtain ⟨VA, vn, vc, xs⟩ := v
  simp only [Vc.v] at hcc hd
  subst hd
  rw [Nat.add_zero] at hcc
  have HG : Hid (g < w.heap.size) := hg
  have HBB : Hid (b < w.heap.size) := hb
  have HC := Lib.hid hc
  have HCC := Lib.hid hcc
  clear hr hr0 hu hat hvl hc hcc hg hb
  go_enter Try.func13, Try.ntmps13
  go_upto_region 3 with (go_at_call 12; (with_reducible refine HQ.out.mono ?_); rintro e w' ⟨rfl, B1⟩; have q1 := (B1.cell (p := ⟨b, o, none⟩) HBB.out).trans HCC.out; have q2 := (B1.cell (p := ⟨g, 0, none⟩) HG.out).trans HC.out; replace B1 := Lib.hid B1)
  go_wp2_with fail
  go_loop [3, 5, 11] (fun s3 _ s11 => ∃ k : Nat, k ≤ 1 ∧ s11 = .int .i64 k ∧ Hid (s3 = .int .i64 (if k = 0 then 0 else vn : Nat))) (fun _ _ s11 => 1 - (intOf s11).toNat)
  case atStart => exact ⟨0, Nat.zero_le _, rfl, rfl⟩
  case round =>
    obtain ⟨k, hk, rfl, hz⟩ := hrel
    by_cases h0 : k = 0
    · subst h0
      obtain rfl := hz.out
      go_wp2
      go_round
      case rel => exact ⟨1, Nat.le_refl _, by go_num, by show _ = _; simp⟩
      case measure => simp [intOf]
    · obtain rfl : k = 1 := by omega
      obtain rfl := hz.out
      go_wp2
      go_ret
      exact ⟨by simp, B1.out⟩
set_option maxRecDepth 100000 in
theorem q_fits (g : Nat) (A : Option Addr) (n c d : Nat) (l : List Vc) (v : Vc) (w : World) (hb : Bk w w.heap.size g A n c l) (h1 : 1 ≤ n) (h2 : n ≤ 30) (hd1 : 1 ≤ d) (hd2 : d ≤ 4096) (hr0 : rightL (vxs l) = true) (hd : (lg (vxs l) 0).length = d) (hv : v.At w w.heap.size) (hvo : OkV d v.xs) :
    Calls Try.prog 58 #[.slice (some ⟨g, 0, none⟩) 1 1, v.v] w fun e w' => e = .returned (.int .i64 0) ∧ Below w.heap.size w w' := by
  have HQ := Lib.hid (q_check g A n c l w hb h1 h2)
  rw [hr0] at HQ
  have HD := Lib.hid (fun w1 (b1 : Below w.heap.size w w1) => q_dim g A n c d l w1 (hb.on (Nat.le_refl _) b1) h1 h2 hd2 hr0 hd)
  have HV := Lib.hid (fun w2 (b2 : Below w.heap.size w w2) => vchk v d w2 w.heap.size (hv.below b2))
  have HE : Hid (vchkE v.xs d = 0) := by show _ = _; unfold vchkE; rw [(chkV_ok hd1 hd2).2 hvo]; rfl
  rw [HE.out] at HV
  obtain ⟨VA, vn, vc, xs⟩ := v
  simp only [Vc.v] at HV ⊢
  clear hb hr0 hd hv hvo HE
  go_enter Try.func58, Try.ntmps58
  go_wp2_with (first
    | (go_at_call 12; (with_reducible refine HQ.out.mono ?_); rintro e w1 ⟨rfl, B1⟩; replace B1 := Lib.hid B1)
    | (go_at_call 13; (with_reducible refine (HD.out w1 B1.out).mono ?_); rintro e w2 ⟨rfl, B2⟩; replace B2 : Hid (Below w.heap.size w w2) := B1.out.trans (B2.mono B1.out.size))
    | (go_at_call 14; (with_reducible refine (HV.out w2 B2.out).mono ?_); rintro e w3 ⟨rfl, rfl⟩))
  go_ret
  exact ⟨rfl, B2.out⟩
end Go.Proofs.Ytlmgfbhgamchgaa
