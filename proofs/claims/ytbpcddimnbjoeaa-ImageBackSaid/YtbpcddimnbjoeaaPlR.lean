/- Planes: the ring from the head on. -/
import Derived.Test.YtbpcddimnbjoeaaPlF
import Derived.Test.YtbpcddimnbjoeaaPlM
namespace Go.Proofs.Ytbpcddimnbjoeaa
open Go.RowKit Go.Maps Go.ChangeMaps Go.MapKept
theorem nodup_le : ∀ (n : Nat) (l : List Int), l.Nodup → (∀ x ∈ l, ∃ i : Nat, i < n ∧ x = i) → l.length ≤ n
  | 0, l, _, h => by
    cases l with
    | nil => exact Nat.le_refl _
    | cons a l => obtain ⟨i, hi, _⟩ := h a (List.mem_cons_self ..); omega
  | n + 1, l, hn, h => by
    have h1 : l.length = (l.filter (fun x => x == (n : Int))).length + (l.filter (fun x => !(x == (n : Int)))).length := by
      clear hn h
      induction l with
      | nil => rfl
      | cons a l ih =>
        cases e : a == (n : Int) <;> simp [e, ih] <;> omega
    have h2 : (l.filter (fun x => x == (n : Int))).length ≤ 1 := by
      rw [← List.countP_eq_length_filter]
      exact List.nodup_iff_count.1 hn (n : Int)
    have h3 := nodup_le n (l.filter (fun x => !(x == (n : Int)))) (hn.filter _) (fun x hx => by
      rw [List.mem_filter] at hx
      obtain ⟨i, hi, rfl⟩ := h x hx.1
      have : ¬ ((i : Int) = n) := by simpa using hx.2
      exact ⟨i, by omega, rfl⟩)
    omega
/-- From a slot on, as long as slots are there, and new. -/
def ringGo (ns : List ND) : Nat → List Int → Int → List Int
  | 0, out, _ => out
  | f + 1, out, at_ => if thB ns at_ && !hasI out at_ then ringGo ns f (out ++ [at_]) (nAt ns at_.toNat).next else out
def ringI (ns : List ND) : List Int := if ns.length = 0 then [] else ringGo ns (ns.length + 1) [] (nAt ns 0).next
/-- What has been met. -/
structure RingSt (ns : List ND) (out : List Int) (at_ : Int) : Prop where
  nd : out.Nodup
  th : ∀ x ∈ out, thB ns x = true
  eq : ringI ns = ringGo ns (ns.length + 1 - out.length) out at_
  wf : (Lit.int .i64 at_).wf = true
theorem RingSt.len {ns : List ND} {out : List Int} {at_ : Int} (h : RingSt ns out at_) : out.length ≤ ns.length := nodup_le _ _ h.nd fun x hx => by
  obtain ⟨i, rfl, hi⟩ := thB_nat_iff.1 (h.th x hx)
  exact ⟨i, (thN_iff.1 hi).2.1, rfl⟩
theorem RingSt.step {ns : List ND} {out : List Int} {at_ : Int} (h : RingSt ns out at_) (ht : thB ns at_ = true) (hh : hasI out at_ = false) (hw : (Lit.int .i64 (nAt ns at_.toNat).next).wf = true) : RingSt ns (out ++ [at_]) (nAt ns at_.toNat).next := by
  have hl := h.len
  have hni : at_ ∉ out := fun q => by rw [hasI_iff.2 q] at hh; cases hh
  refine ⟨?_, fun x hx => ?_, ?_, hw⟩
  · rw [List.nodup_append]
    refine ⟨h.nd, by simp, fun a ha b hb => ?_⟩
    simp at hb
    subst hb
    exact fun e => hni (e ▸ ha)
  · rcases List.mem_append.1 hx with hx | hx
    · exact h.th x hx
    · simp at hx; rw [hx]; exact ht
  · have he := h.eq
    rw [show ns.length + 1 - out.length = (ns.length + 1 - (out ++ [at_]).length) + 1 by rw [List.length_append, List.length_singleton]; omega] at he
    rw [he]
    show (if thB ns at_ && !hasI out at_ then _ else _) = _
    rw [ht, hh]
    rfl
theorem RingSt.stop {ns : List ND} {out : List Int} {at_ : Int} (h : RingSt ns out at_) (ht : (thB ns at_ && !hasI out at_) = false) : ringI ns = out := by
  have hl := h.len
  have he := h.eq
  rw [show ns.length + 1 - out.length = (ns.length - out.length) + 1 by omega] at he
  rw [he]
  show (if thB ns at_ && !hasI out at_ then _ else _) = _
  rw [ht]
  rfl
theorem RingSt.start {ns : List ND} (h : ns.length ≠ 0) (hw : (Lit.int .i64 (nAt ns 0).next).wf = true) : RingSt ns [] (nAt ns 0).next :=
  ⟨by simp, by simp, by unfold ringI; rw [if_neg h]; rfl, hw⟩
theorem PgAt.wfn {w : World} {B : Nat} {A : Option Addr} {n c : Nat} {ns : List ND} (h : PgAt w B A n c ns) {i : Nat} (hi : i < n) : (Lit.int .i64 (nAt ns i).next).wf = true := by
  obtain ⟨_, _, d, _, _, hd, _, hn⟩ := h.node hi
  rw [nAt_of hd]
  exact hn.2.2.2.2.2.2.2.1
def lenOf (v : Value) : Nat := match v with | .slice _ n _ => n | _ => 0
/-- A cell of a node. -/
theorem PgAt.next {w : World} {B : Nat} {A : Option Addr} {n c : Nat} {ns : List ND} (h : PgAt w B A n c ns) {i : Nat} (hi : i < n) : ∃ b o, A = some ⟨b, o, none⟩ ∧ b < B ∧ w.cell? ⟨b, o + i * 7 + 5, none⟩ = some (.int .i64 (nAt ns i).next) := by
  obtain ⟨b, o, d, e, hb, hd, hr, _⟩ := h.node hi
  rw [nAt_of hd]
  exact ⟨b, o, e, hb, hr 5 _ rfl⟩
set_option maxRecDepth 100000 in
set_option maxHeartbeats 2000000 in
theorem rf_ring (A : Option Addr) (n c : Nat) (ns : List ND) (en tp : Int) (w : World) (hg : PgAt w w.heap.size A n c ns) :
    Calls Try.prog 73 #[.agg (pgL A n c en tp)] w (RetI (ringI ns) w) := by
  obtain ⟨w1, hw1⟩ : ∃ x, w.alloc (.cells (pgL A n c en tp) 24) = x := ⟨_, rfl⟩
  obtain ⟨C1, b1⟩ := box_plane hw1
  have hlen := hg.len
  have hn := hg.2.1
  have c0 : w1.cell? ⟨w.heap.size, 0, none⟩ = some (.slice A n c) := C1.cell 0
  have HB := Lib.hid b1
  by_cases hz : n = 0
  · subst hz
    have HR : Hid (ringI ns = []) := by show _ = _; unfold ringI; rw [if_pos hlen]
    clear hg C1 hlen b1
    unfold pgL at hw1 ⊢
    go_enter Try.func73, Try.ntmps73
    go_upto_region 1 with fail
    (try rw [hw1])
    clear hw1
    go_wp2_with fail
    go_ret
    exact ⟨_, _, _, rfl, by rw [HR.out]; exact OwnI.nil_ _ _, HB.out⟩
  · have HG := Lib.hid (hg.on b1 b1.size)
    have HC := Lib.hid C1
    have HL := Lib.hid hlen
    have hbl := Lib.hid C1.lt
    have hz0 : ((n : Int) == 0) = false := beq_false_of_ne (by omega)
    obtain ⟨b, o, rfl, hb, cN⟩ := (hg.on b1 b1.size).next (i := 0) (by omega)
    rw [Nat.zero_mul, Nat.add_zero] at cN
    have hn0 : 0 < n := by omega
    have hST := Lib.hid (RingSt.start (ns := ns) (by omega) (hg.wfn (i := 0) (by omega)))
    obtain ⟨n0, hn0e⟩ : ∃ x, (nAt ns 0).next = x := ⟨_, rfl⟩
    rw [hn0e] at cN hST
    clear hg C1 hlen hn0e b1
    unfold pgL at hw1 ⊢
    go_enter Try.func73, Try.ntmps73
    go_upto_region 1 with fail
    (try rw [hw1])
    clear hw1
    go_wp2_with fail
    go_loopw [3, 4] (fun s3 s4 wr => ∃ (m : Nat) (A' : Option Addr) (c' : Nat) (out : List Int) (at_ : Int), s3 = .slice A' m c' ∧ s4 = .int .i64 at_ ∧ Hid (OwnI wr w1.heap.size A' m c' out) ∧ Hid (Below w1.heap.size w1 wr) ∧ Hid (RingSt ns out at_)) (fun s3 _ _ => n + 1 - lenOf s3)
    case atStart => exact ⟨0, none, 0, [], n0, rfl, rfl, Lib.hid (OwnI.nil_ _ _), Lib.hid (Below.refl _ _), hST⟩
    case round =>
      obtain ⟨m, A', c', out, at_, rfl, rfl, ho, hb', hst ⟩ := hrel
      have hmn : m ≤ n := by have h1 := hst.out.len; have h2 := ho.out.len; have h3 := HL.out; omega
      have hol := Lib.hid ho.out.len
      have c0r : wr.cell? ⟨w.heap.size, 0, none⟩ = some (.slice (some ⟨b, o, none⟩) n c) := (hb'.out.cell (p := ⟨w.heap.size, 0, none⟩) hbl.out).trans c0
      have LP := plane_load (HC.out.below hb'.out hbl.out)
      have HT := Lib.hid (rf_there (some ⟨b, o, none⟩) n c ns en tp at_ wr (HG.out.on hb'.out hb'.out.size))
      have hsz := hb'.out.size
      unfold pgL at LP
      cases hq : thB ns at_ with
      | true =>
        rw [hq] at HT
        cases hh : hasI out at_ with
        | true =>
          have HR : Hid (ringI ns = out) := hst.out.stop (by rw [hq, hh]; rfl)
          clear hq
          go_wp2_with (first
            | refine wpList_loadE LP _ rfl rfl rfl ?_
            | (go_at_call 23; refine HT.out.mono ?_; rintro e w2 ⟨rfl, bt⟩; have ho2 := Lib.hid (ho.out.below bt); have hb2 := Lib.hid (hb'.out.trans (bt.mono hsz)); have HH := rf_has A' m c' out at_ w2 ho2.out.rd (by omega); rw [hh] at HH; replace HH := Lib.hid HH; clear bt hh)
            | (go_at_call 75; refine HH.out.mono ?_; rintro e w3 ⟨rfl, rfl⟩))
          go_ret
          exact ⟨_, _, _, rfl, by rw [HR.out]; exact ho2.out.mono HB.out.size, HB.out.trans (hb2.out.mono HB.out.size)⟩
        | false =>
          obtain ⟨i, hi, hti⟩ := thB_nat_iff.1 hq
          subst hi
          have hin : i < n := by have h1 := (thN_iff.1 hti).2.1; have h2 := HL.out; omega
          have HS : Hid (RingSt ns (out ++ [(i : Int)]) (nAt ns i).next) := hst.out.step hq hh (HG.out.wfn hin)
          clear hq hti
          obtain ⟨x, hx⟩ : ∃ x, (nAt ns i).next = x := ⟨_, rfl⟩
          rw [hx] at HS
          have HX := Lib.hid hx
          clear hx
          go_wp2_with (first
            | refine wpList_loadE LP _ rfl rfl rfl ?_
            | (go_at_call 23; refine HT.out.mono ?_; rintro e w2 ⟨rfl, bt⟩; have ho2 := Lib.hid (ho.out.below bt); have hb2 := Lib.hid (hb'.out.trans (bt.mono hsz)); have HH := rf_has A' m c' out i w2 ho2.out.rd (by omega); rw [hh] at HH; replace HH := Lib.hid HH; clear bt hh)
            | (go_at_call 75; refine HH.out.mono ?_; rintro e w3 ⟨rfl, rfl⟩)
            | (at_builtin; refine wpList_push rfl (.tmp 23) (.tmp 25) _ rfl w1.heap.size 3 .i64 8 (by decide) Try.underlying43 info_int w2 A' m c' out _ rfl ho2.out rfl (by omega) hb2.out.size ?_; intro g' c'' w3 ho3 hb3; have hb4 := Lib.hid (hb2.out.trans hb3); have c0s : w3.cell? ⟨w.heap.size, 0, none⟩ = some (.slice (some ⟨b, o, none⟩) n c) := (hb4.out.cell (p := ⟨w.heap.size, 0, none⟩) hbl.out).trans c0; obtain ⟨b9, o9, e9, _, cX⟩ := (HG.out.on hb4.out hb4.out.size).next hin; injection e9 with e9; injection e9 with e1 e2; subst e1 e2; rw [HX.out] at cX; replace ho3 := Lib.hid ho3; clear hb3))
          go_roundw
          case rel => exact ⟨m + 1, _, _, _, x, rfl, rfl, ho3, hb4, HS⟩
          case measure => simp [lenOf]; omega
      | false =>
        rw [hq] at HT
        have HR : Hid (ringI ns = out) := hst.out.stop (by rw [hq]; rfl)
        clear hq
        go_wp2_with (first
          | refine wpList_loadE LP _ rfl rfl rfl ?_
          | (go_at_call 23; refine HT.out.mono ?_; rintro e w2 ⟨rfl, bt⟩; have ho2 := Lib.hid (ho.out.below bt); have hb2 := Lib.hid (hb'.out.trans (bt.mono hsz)); clear bt))
        go_ret
        exact ⟨_, _, _, rfl, by rw [HR.out]; exact ho2.out.mono HB.out.size, HB.out.trans (hb2.out.mono HB.out.size)⟩
set_option maxRecDepth 100000 in
set_option maxHeartbeats 2000000 in
theorem pl_ring (A : Option Addr) (n c : Nat) (ns : List ND) (en tp : Int) (w : World) (hg : PgAt w w.heap.size A n c ns) :
    Calls Try.prog 63 #[.agg (pgL A n c en tp)] w (RetI (ringI ns) w) := by
  obtain ⟨w1, hw1⟩ : ∃ x, w.alloc (.cells (pgL A n c en tp) 24) = x := ⟨_, rfl⟩
  obtain ⟨C1, b1⟩ := box_plane hw1
  have hlen := hg.len
  have hn := hg.2.1
  have c0 : w1.cell? ⟨w.heap.size, 0, none⟩ = some (.slice A n c) := C1.cell 0
  have HB := Lib.hid b1
  by_cases hz : n = 0
  · subst hz
    have HR : Hid (ringI ns = []) := by show _ = _; unfold ringI; rw [if_pos hlen]
    clear hg C1 hlen b1
    unfold pgL at hw1 ⊢
    go_enter Try.func63, Try.ntmps63
    go_upto_region 1 with fail
    (try rw [hw1])
    clear hw1
    go_wp2_with fail
    go_ret
    exact ⟨_, _, _, rfl, by rw [HR.out]; exact OwnI.nil_ _ _, HB.out⟩
  · have HG := Lib.hid (hg.on b1 b1.size)
    have HC := Lib.hid C1
    have HL := Lib.hid hlen
    have hbl := Lib.hid C1.lt
    have hz0 : ((n : Int) == 0) = false := beq_false_of_ne (by omega)
    obtain ⟨b, o, rfl, hb, cN⟩ := (hg.on b1 b1.size).next (i := 0) (by omega)
    rw [Nat.zero_mul, Nat.add_zero] at cN
    have hn0 : 0 < n := by omega
    have hST := Lib.hid (RingSt.start (ns := ns) (by omega) (hg.wfn (i := 0) (by omega)))
    obtain ⟨n0, hn0e⟩ : ∃ x, (nAt ns 0).next = x := ⟨_, rfl⟩
    rw [hn0e] at cN hST
    clear hg C1 hlen hn0e b1
    unfold pgL at hw1 ⊢
    have hmm := fun w => run_makeMap (P := Try.prog) 114 w
    have m1 : MpAt (w1.alloc (.map #[] 0)) 3 w1.heap.size 0 (.map []) := World.ownsMap_made w1 Try.prog 3 (plainElem (H := Unit) Try.prog 3)
    have HM1 := Lib.hid m1
    have HMB : Hid (Below w1.heap.size w1 (w1.alloc (.map #[] 0))) := bel_box _ _
    have c0m : (w1.alloc (.map #[] 0)).cell? ⟨w.heap.size, 0, none⟩ = some (.slice (some ⟨b, o, none⟩) n c) := ((bel_box w1 (.map #[] 0)).cell (p := ⟨w.heap.size, 0, none⟩) hbl.out).trans c0
    have cNm : (w1.alloc (.map #[] 0)).cell? ⟨b, o + 5, none⟩ = some (.int .i64 n0) := ((bel_box w1 (.map #[] 0)).cell (p := ⟨b, o + 5, none⟩) hb).trans cN
    clear m1
    go_enter Try.func63, Try.ntmps63
    go_upto_region 1 with fail
    (try rw [hw1])
    clear hw1
    go_wp2_with fail
    go_loopw [3, 5] (fun s3 s5 wr => ∃ (m : Nat) (A' : Option Addr) (c' : Nat) (out : List Int) (at_ : Int), s3 = .slice A' m c' ∧ s5 = .int .i64 at_ ∧ Hid (OwnI wr (w1.heap.size + 1) A' m c' out) ∧ Hid (Below w1.heap.size w1 wr) ∧ Hid (RingSt ns out at_) ∧ Hid (∃ D, MpAt wr 3 w1.heap.size m D ∧ CmD .i64 D out)) (fun s3 _ _ => n + 1 - lenOf s3)
    case atStart => exact ⟨0, none, 0, [], n0, rfl, rfl, Lib.hid (OwnI.nil_ _ _), HMB, hST, Lib.hid ⟨_, HM1.out, CmD.nil_ _⟩⟩
    case round =>
      obtain ⟨m, A', c', out, at_, rfl, rfl, ho, hb', hst , hmp⟩ := hrel
      have hmn : m ≤ n := by have h1 := hst.out.len; have h2 := ho.out.len; have h3 := HL.out; omega
      have hol := Lib.hid ho.out.len
      have c0r : wr.cell? ⟨w.heap.size, 0, none⟩ = some (.slice (some ⟨b, o, none⟩) n c) := (hb'.out.cell (p := ⟨w.heap.size, 0, none⟩) hbl.out).trans c0
      have LP := plane_load (HC.out.below hb'.out hbl.out)
      have HT := Lib.hid (pl_there (some ⟨b, o, none⟩) n c ns en tp at_ wr (HG.out.on hb'.out hb'.out.size))
      have hsz := hb'.out.size
      unfold pgL at LP
      obtain ⟨D, hM, hD⟩ := hmp.out
      have HM := Lib.hid hM
      have HD := Lib.hid hD
      have hkey := keyOf_int_mk (P := Try.prog) Try.underlying3 hst.out.wf
      cases hq : thB ns at_ with
      | true =>
        rw [hq] at HT
        have hco := count_le out at_
        cases hh : hasI out at_ with
        | true =>
          have HR : Hid (ringI ns = out) := hst.out.stop (by rw [hq, hh]; rfl)
          have hct : ((out.count at_ : Nat) : Int) ≠ 0 := by have := count_pos.2 (hasI_iff.1 hh); omega
          obtain ⟨cn, hcn⟩ : ∃ x : Int, ((out.count at_ : Nat) : Int) = x := ⟨_, rfl⟩
          rw [hcn] at hct
          have hc0 : (cn == 0) = false := beq_false_of_ne hct
          have HCN := Lib.hid hcn
          clear hq hh hct hcn hco
          go_wp2_with (first
            | refine wpList_loadE LP _ rfl rfl rfl ?_
            | (go_at_call 16; refine HT.out.mono ?_; rintro e w2 ⟨rfl, bt⟩; have ho2 := Lib.hid (ho.out.below bt); have hb2 := Lib.hid (hb'.out.trans (bt.mono hsz)); have hM2 := Lib.hid (HM.out.below bt); clear bt)
            | (at_lookup; refine wpList_unguard rfl ?_; refine wpList_lookup_own_int _ rfl (.tmp 20) (.tmp 21) 114 rfl 3 3 .i64 lawI Try.underlying114 Try.underlying3 (zeroI _) w1.heap.size m D rfl hM2.out (.int .i64 at_) (.int .i64 at_) rfl hkey ?_; intro cc hat hwc; obtain rfl : cc = cn := (cnt_eq HD.out hat).trans HCN.out; clear hat hwc))
          go_ret
          exact ⟨_, _, _, rfl, by rw [HR.out]; exact ho2.out.mono (Nat.le_trans HB.out.size (Nat.le_succ _)), HB.out.trans (hb2.out.mono HB.out.size)⟩
        | false =>
          obtain ⟨i, hi, hti⟩ := thB_nat_iff.1 hq
          subst hi
          have hin : i < n := by have h1 := (thN_iff.1 hti).2.1; have h2 := HL.out; omega
          have HS : Hid (RingSt ns (out ++ [(i : Int)]) (nAt ns i).next) := hst.out.step hq hh (HG.out.wfn hin)
          have HCZ : Hid (out.count (i : Int) = 0) := by
            show _ = _
            by_cases h0 : out.count (i : Int) = 0
            · exact h0
            · have := hasI_iff.2 (count_pos.1 (Nat.pos_of_ne_zero h0)); rw [hh] at this; cases this
          have hsn := hD.snoc i
          rw [HCZ.out] at hsn
          have HSN := Lib.hid hsn
          have hv := plainElem_int (H := Unit) (P := Try.prog) Try.underlying3 (show (Lit.int .i64 1).wf = true from by decide)
          have hmx : m < maxLen := by unfold maxLen; omega
          clear hq hti hh hsn hco
          obtain ⟨x, hx⟩ : ∃ x, (nAt ns i).next = x := ⟨_, rfl⟩
          rw [hx] at HS
          have HX := Lib.hid hx
          clear hx
          go_wp2_with (first
            | refine wpList_loadE LP _ rfl rfl rfl ?_
            | (go_at_call 16; refine HT.out.mono ?_; rintro e w2 ⟨rfl, bt⟩; have ho2 := Lib.hid (ho.out.below bt); have hb2 := Lib.hid (hb'.out.trans (bt.mono hsz)); have hM2 := Lib.hid (HM.out.below bt); clear bt)
            | (at_lookup; refine wpList_unguard rfl ?_; refine wpList_lookup_own_int _ rfl (.tmp 20) (.tmp 21) 114 rfl 3 3 .i64 lawI Try.underlying114 Try.underlying3 (zeroI _) w1.heap.size m D rfl hM2.out (.int .i64 i) (.int .i64 i) rfl hkey ?_; intro cc hat hwc; obtain rfl : cc = 0 := (cnt_eq HD.out hat).trans (by rw [HCZ.out]; rfl); clear hat hwc)
            | (at_lookup; refine wpList_lookup_own_int _ rfl (.tmp 31) (.tmp 32) 114 rfl 3 3 .i64 lawI Try.underlying114 Try.underlying3 (zeroI _) w1.heap.size m D rfl hM2.out (.int .i64 i) (.int .i64 i) rfl hkey ?_; intro cc hat hwc; obtain rfl : cc = 0 := (cnt_eq HD.out hat).trans (by rw [HCZ.out]; rfl); clear hat hwc)
            | (at_mapUpdate; go_loud (refine wpList_mapUpdate_own _ rfl (.tmp 31) (.tmp 32) (.tmp 34) 114 rfl 3 3 lawI Try.underlying114 (plainElem Try.prog 3) w1.heap.size m D rfl hM2.out hmx (.int .i64 i) (.int .i64 1) (.int .i64 i) rfl rfl hkey (.lit (.int .i64 1)) [] hv ?_; intro w3 hM3 hg3; have ho3 : Hid (OwnI w3 (w1.heap.size + 1) A' m c' out) := World.ownsRow.kept ho2.out hg3 (by cases hob : (Value.slice A' m c').ownBlock with | none => exact .inl rfl | some k => exact .inr (by intro e; injection e with e; have := (World.ownsRow.lt ho2.out k hob).1; omega)); have hb3 : Hid (Below w1.heap.size w1 w3) := hb2.out.grown hg3 hb2.out.size (fun k hk => (by injection hk with hk; omega)); replace hM3 := Lib.hid hM3; clear hg3))
            | (at_builtin; refine wpList_push rfl (.tmp 35) (.tmp 37) _ rfl (w1.heap.size + 1) 3 .i64 8 (by decide) Try.underlying43 info_int w3 A' m c' out _ rfl ho3.out rfl (by omega) (World.ownsMap.lt hM3.out) ?_; intro g' c'' w4 ho4 hb4; have hb5 := Lib.hid (hb3.out.trans (hb4.mono (Nat.le_succ _))); have hM4 := Lib.hid (MpAt.at_ hM3.out (hb4.block w1.heap.size (Nat.lt_succ_self _))); have c0s : w4.cell? ⟨w.heap.size, 0, none⟩ = some (.slice (some ⟨b, o, none⟩) n c) := (hb5.out.cell (p := ⟨w.heap.size, 0, none⟩) hbl.out).trans c0; obtain ⟨b9, o9, e9, _, cX⟩ := (HG.out.on hb5.out hb5.out.size).next hin; injection e9 with e9; injection e9 with e1 e2; subst e1 e2; rw [HX.out] at cX; replace ho4 := Lib.hid ho4; clear hb4))
          go_roundw
          case rel => exact ⟨m + 1, _, _, _, x, rfl, rfl, ho4, hb5, HS, Lib.hid ⟨_, hM4.out, HSN.out⟩⟩
          case measure => simp [lenOf]; omega
      | false =>
        rw [hq] at HT
        have HR : Hid (ringI ns = out) := hst.out.stop (by rw [hq]; rfl)
        clear hq
        go_wp2_with (first
          | refine wpList_loadE LP _ rfl rfl rfl ?_
          | (go_at_call 16; refine HT.out.mono ?_; rintro e w2 ⟨rfl, bt⟩; have ho2 := Lib.hid (ho.out.below bt); have hb2 := Lib.hid (hb'.out.trans (bt.mono hsz)); clear bt))
        go_ret
        exact ⟨_, _, _, rfl, by rw [HR.out]; exact ho2.out.mono (Nat.le_trans HB.out.size (Nat.le_succ _)), HB.out.trans (hb2.out.mono HB.out.size)⟩
end Go.Proofs.Ytbpcddimnbjoeaa
