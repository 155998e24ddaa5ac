/- Images: Put, by the program and by the document. Merged of ImP ImF ImG ImE ImH. -/
import Derived.Test.YtbpcddimnbjoeaaImAD
import Derived.Test.YtbpcddimnbjoeaaPmD
import Derived.Test.YtbpcddimnbjoeaaPlO
import Derived.Test.YtbpcddimnbjoeaaPlV
import Derived.Test.YtbpcddimnbjoeaaRow
namespace Go.Proofs.Ytbpcddimnbjoeaa
open Go.RowKit
def tolB (ns : List ND) : Bool := (List.range ns.length).all fun i => toldB (nAt ns i) (thN ns i)
def slZ (ns : List ND) (i : Nat) : List Int := if thN ns i then ndZ (nAt ns i) else if 0 < i then [0] else []
def hdZ (ns : List ND) (links en tp : Int) : List Int := [links, (ns.length : Int), en, tp, (nAt ns 0).next, (nAt ns 0).prev]
def bdZ (ns : List ND) (k : Nat) : List Int := (List.range k).flatMap (slZ ns)
def imZ (ns : List ND) (links en tp : Int) : List Int := hdZ ns links en tp ++ bdZ ns ns.length
def mkL : List Int := [71, 78, 71, 49]
def putL (ns : List ND) (links en tp : Int) : List Int := mkL ++ numsZ (imZ ns links en tp)
def putE (ns : List ND) (links en tp : Int) : Int := if links < 1 ∨ 32 < links then 6 else if chkB ns links en tp && tolB ns then 0 else 7
def putS (ns : List ND) (links en tp : Int) : List Int := if putE ns links en tp = 0 then putL ns links en tp ++ sumB (putL ns links en tp) else []
theorem bdZ_succ (ns : List ND) (k : Nat) : bdZ ns (k + 1) = bdZ ns k ++ slZ ns k := by simp [bdZ, List.range_succ]
theorem tol_no {ns : List ND} {i : Nat} (hi : i < ns.length) (h : toldB (nAt ns i) (thN ns i) = false) : tolB ns = false := by
  unfold tolB
  rw [List.all_eq_false]
  exact ⟨i, List.mem_range.2 hi, by rw [h]; decide⟩
theorem tol_yes {ns : List ND} (h : ∀ i, i < ns.length → toldB (nAt ns i) (thN ns i) = true) : tolB ns = true := by
  unfold tolB
  rw [List.all_eq_true]
  exact fun i hi => h i (List.mem_range.1 hi)
theorem put_far {ns : List ND} {links en tp : Int} (h : links < 1 ∨ 32 < links) : putE ns links en tp = 6 ∧ putS ns links en tp = [] := by
  have e : putE ns links en tp = 6 := by unfold putE; rw [if_pos h]
  exact ⟨e, by unfold putS; rw [e]; rfl⟩
theorem put_bad {ns : List ND} {links en tp : Int} (h : ¬ (links < 1 ∨ 32 < links)) (hc : (chkB ns links en tp && tolB ns) = false) : putE ns links en tp = 7 ∧ putS ns links en tp = [] := by
  have e : putE ns links en tp = 7 := by unfold putE; rw [if_neg h, hc]; rfl
  exact ⟨e, by unfold putS; rw [e]; rfl⟩
theorem put_ok {ns : List ND} {links en tp : Int} (h : ¬ (links < 1 ∨ 32 < links)) (hc : (chkB ns links en tp && tolB ns) = true) : putE ns links en tp = 0 ∧ putS ns links en tp = putL ns links en tp ++ sumB (putL ns links en tp) := by
  have e : putE ns links en tp = 0 := by unfold putE; rw [if_neg h, hc]; rfl
  exact ⟨e, by unfold putS; rw [e]; rfl⟩
theorem lvI_mem {ns : List ND} {i : Nat} (h : thN ns i = true) : ∀ k, i < k → (i : Int) ∈ lvI ns k
  | 0, hk => by omega
  | k + 1, hk => by
    rw [lvI_succ, List.mem_append]
    by_cases e : i = k
    · subst e; rw [if_pos h]; exact .inr (by simp)
    · exact .inl (lvI_mem h k (by omega))
theorem chk_node {ns : List ND} {links en tp : Int} (hc : chkB ns links en tp = true) {i : Nat} (h : thN ns i = true) : nodeB ns i links = true := by
  unfold chkB at hc
  simp only [Bool.and_eq_true, List.all_eq_true] at hc
  exact hc.1.2 (i : Int) (lvI_mem h _ (thN_iff.1 h).2.1)
theorem chk_len {ns : List ND} {links en tp : Int} (hc : chkB ns links en tp = true) : 1 ≤ ns.length ∧ ns.length ≤ 4097 := by
  unfold chkB at hc
  simp only [Bool.and_eq_true, decide_eq_true_eq] at hc
  exact ⟨hc.1.1.1.1, hc.1.1.1.2⟩
theorem node_bd {ns : List ND} {links : Int} {i : Nat} (h : nodeB ns i links = true) (hl : (nAt ns i).ls.length = (nAt ns i).ln) (hx : ∀ x ∈ (nAt ns i).ls, x.xs.length = x.n) : (nAt ns i).ln ≤ 8 ∧ ∀ x ∈ (nAt ns i).ls, x.n ≤ 64 := by
  unfold nodeB shapeB listsB at h
  simp only [Bool.and_eq_true, Bool.not_eq_true', decide_eq_false_iff_not, List.all_eq_true, List.mem_range, bne_eq_false_iff_eq] at h
  refine ⟨by omega, fun x hm => ?_⟩
  obtain ⟨k, hk, e⟩ := List.mem_iff_getElem.1 hm
  have hb := h.1.2 k (by omega)
  unfold listB rightB at hb
  simp only [Bool.and_eq_true, decide_eq_true_eq] at hb
  have hxs : (lsAt (nAt ns i) k) = x := by unfold lsAt; rw [List.getD_eq_getElem?_getD, List.getElem?_eq_getElem hk]; exact e
  rw [hxs] at hb
  have := (mostE_bd links k).2
  have := hx x hm
  omega
theorem ndZ_len {d : ND} (hv : d.vec.xs.length = d.vec.n) (h0 : d.vec.n ≤ 4096) (hl : d.ls.length ≤ 10) (hx : ∀ x ∈ d.ls, (lsZ x).length ≤ 81) : (ndZ d).length ≤ 5000 := by
  have h := flat_le hx d.ls.length
  rw [List.take_length] at h
  unfold ndZ
  simp only [List.length_append, List.length_cons, List.length_nil, List.length_map]
  omega
theorem bdZ_len {ns : List ND} : ∀ k, (∀ i, i < k → (slZ ns i).length ≤ 5000) → (bdZ ns k).length ≤ 5000 * k
  | 0, _ => by simp [bdZ]
  | k + 1, h => by
    have := bdZ_len k (fun i hi => h i (by omega))
    have := h k (by omega)
    rw [bdZ_succ, List.length_append]; omega
theorem same_nil32 (A : Option Addr) (n c : Nat) (w : World) : Calls Try.prog 59 #[.slice A n c, .slice none 0 0] w fun e w' => e = .returned (.bool (n == 0)) ∧ w = w' := by
  by_cases h : n = 0
  · subst h
    go_enter Try.func59, Try.ntmps59
    go_wp2
    go_loopw [13] (fun s13 wr => s13 = .int .i64 0 ∧ w = wr) (fun _ _ => 0)
    case atStart => exact ⟨rfl, rfl⟩
    case round =>
      obtain ⟨rfl, rfl⟩ := hrel
      go_wp2
      go_ret
      exact ⟨rfl, rfl⟩
  · have e : ((n : Int) == 0) = false := by simp; omega
    have e2 : ((n : Int) != 0) = true := by simp; omega
    have e3 : Hid ((n == 0) = false) := by show _ = _; simp; omega
    go_enter Try.func59, Try.ntmps59
    go_wp2
    go_ret
    exact ⟨by rw [e3.out]; rfl, rfl⟩
/-- Whether an item is none. -/
def itmB (id tags : Int) (n : Nat) : Bool := id == 0 && tags == 0 && n == 0
set_option maxRecDepth 100000 in
set_option maxHeartbeats 1000000 in
theorem item_nil (id tags : Int) (A : Option Addr) (n c : Nat) (w : World) : Calls Try.prog 33 #[.agg #[.int .u64 id, .slice A n c, .int .u64 tags], .agg #[.int .u64 0, .slice none 0 0, .int .u64 0]] w (RetB (itmB id tags n) w) := by
  have HS := Lib.hid (same_nil32 A n c)
  have b2 : Below w.heap.size w ((w.alloc (.cells #[.int .u64 id, .slice A n c, .int .u64 tags] 39)).alloc (.cells #[.int .u64 0, .slice none 0 0, .int .u64 0] 39)) := ((Below.refl _ w).alloc (Nat.le_refl _) _).alloc (by simp only [World.alloc, Array.size_push]; omega) _
  have HB := Lib.hid b2
  clear b2
  by_cases h1 : id = 0
  · by_cases h2 : tags = 0
    · subst h1 h2
      have HV : Hid (itmB 0 0 n = (n == 0)) := by show _ = _; simp [itmB]
      obtain ⟨r, hr⟩ : ∃ r, (n == 0) = r := ⟨_, rfl⟩
      rw [hr] at HS HV
      clear hr
      go_enter Try.func33, Try.ntmps33
      go_wp2_with (go_at_call 59; (with_reducible refine (HS.out _).mono ?_); rintro e w1 ⟨rfl, rfl⟩)
      go_ret
      exact ⟨by rw [HV.out]; rfl, HB.out⟩
    · have e2 : (tags == 0) = false := by simpa using h2
      have HV : Hid (itmB id tags n = false) := by show _ = _; simp [itmB, e2]
      subst h1
      go_enter Try.func33, Try.ntmps33
      go_wp2_with fail
      go_ret
      exact ⟨by rw [HV.out]; rfl, HB.out⟩
  · have e1 : (id == 0) = false := by simpa using h1
    have HV : Hid (itmB id tags n = false) := by show _ = _; simp [itmB, e1]
    go_enter Try.func33, Try.ntmps33
    go_wp2_with fail
    go_ret
    exact ⟨by rw [HV.out]; rfl, HB.out⟩
theorem load_node2 {w : World} {b : Nat} {d : ND} (h : Blk w b 42 d.cells) : (Instr.loadAt 42 (.pointer (some ⟨b, 0, none⟩))).run Try.prog w = .ok (.agg d.cells) w := row_load h Try.underlying42 rfl nodeT
theorem itemTI : (Try.prog.info? 39).map (·.size) = some 3 := by kernel_rfl
set_option maxRecDepth 100000 in
set_option maxHeartbeats 1000000 in
theorem rf_zero (d : ND) (w : World) : Calls Try.prog 42 #[.agg d.cells] w (RetB (toldB d false) w) := by
  obtain ⟨w1, hw1⟩ : ∃ x, w.alloc (.cells d.cells 42) = x := ⟨_, rfl⟩
  have k1 : Blk w1 w.heap.size 42 d.cells := by rw [← hw1]; exact Blk.new _ _ _
  have B1 : Hid (Below w.heap.size w w1) := by show Below _ _ _; rw [← hw1]; exact bel_boxI _ _
  have LI : (Instr.loadAt 39 (.pointer (some ⟨w.heap.size, 0, none⟩))).run Try.prog w1 = .ok (.agg #[.int .u64 d.id, d.vec.v, .int .u64 d.tags]) w1 := row_load_mid k1 0 #[.int .u64 d.id, d.vec.v, .int .u64 d.tags] rfl Try.underlying39 rfl itemTI
  have HK := Lib.hid k1
  have HI := Lib.hid (item_nil d.id d.tags d.vec.A d.vec.n d.vec.c w1)
  have HV : Hid (toldB d false = (itmB d.id d.tags d.vec.n && d.level == 0 && d.ln == 0)) := rfl
  obtain ⟨r, hr⟩ : ∃ r, itmB d.id d.tags d.vec.n = r := ⟨_, rfl⟩
  rw [hr] at HI HV
  clear hr k1
  obtain ⟨id, ⟨VA, vn, vc, vxs⟩, tags, level, LA, ln, lc, ls, next, prev⟩ := d
  simp only [ND.cells, IS.v] at hw1 HK LI HV HI ⊢
  go_enter Try.func42, Try.ntmps42
  go_upto_region 1 with fail
  (try rw [hw1])
  clear hw1
  cases r with
  | false =>
    go_wp2_with (first | refine wpList_loadE LI _ rfl rfl rfl ?_ | (go_at_call 33; (with_reducible refine HI.out.mono ?_); rintro e w2 ⟨rfl, b2⟩; have HB2 := Lib.hid (B1.out.trans (b2.mono B1.out.size)); clear b2))
    go_ret
    exact ⟨by rw [HV.out]; rfl, HB2.out⟩
  | true =>
    by_cases h4 : level = 0
    · subst h4
      have h5 : ((ln : Int) == 0) = (ln == 0) := by rw [Bool.eq_iff_iff]; simp
      go_wp2_with (first | refine wpList_loadE LI _ rfl rfl rfl ?_ | (go_at_call 33; (with_reducible refine HI.out.mono ?_); rintro e w2 ⟨rfl, b2⟩; have HB2 := Lib.hid (B1.out.trans (b2.mono B1.out.size)); have c3 : w2.cell? ⟨w.heap.size, 3, none⟩ = some (.int .i64 0) := (HK.out.below b2 HK.out.lt).cell 3; have c4 : w2.cell? ⟨w.heap.size, 4, none⟩ = some (.slice LA ln lc) := (HK.out.below b2 HK.out.lt).cell 4; clear b2))
      go_ret
      exact ⟨by rw [HV.out]; simp, HB2.out⟩
    · have e4 : (level == 0) = false := by simpa using h4
      go_wp2_with (first | refine wpList_loadE LI _ rfl rfl rfl ?_ | (go_at_call 33; (with_reducible refine HI.out.mono ?_); rintro e w2 ⟨rfl, b2⟩; have HB2 := Lib.hid (B1.out.trans (b2.mono B1.out.size)); have c3 : w2.cell? ⟨w.heap.size, 3, none⟩ = some (.int .i64 level) := (HK.out.below b2 HK.out.lt).cell 3; have c4 : w2.cell? ⟨w.heap.size, 4, none⟩ = some (.slice LA ln lc) := (HK.out.below b2 HK.out.lt).cell 4; clear b2))
      go_ret
      exact ⟨by rw [HV.out]; simp [e4], HB2.out⟩
set_option maxRecDepth 100000 in
set_option maxHeartbeats 4000000 in
theorem rf_fits (A : Option Addr) (n c : Nat) (ns : List ND) (en tp links : Int) (w : World) (hg : PgAt w w.heap.size A n c ns) :
    Calls Try.prog 21 #[.agg (pgL A n c en tp), .int .i64 links] w (RetB (chkB ns links en tp && tolB ns) w) := by
  obtain ⟨w1, hw1⟩ : ∃ x, w.alloc (.cells (pgL A n c en tp) 24) = x := ⟨_, rfl⟩
  obtain ⟨C1, b1⟩ := box_plane hw1
  have hn := hg.2.1
  have HL := Lib.hid hg.len
  have HG := Lib.hid (hg.below b1)
  have HC := Lib.hid C1
  have HB := Lib.hid b1
  have LP := plane_load C1
  have HK := Lib.hid (rf_check A n c ns en tp links w1 (hg.on b1 b1.size))
  clear hg C1 b1
  unfold pgL at hw1 LP HK ⊢
  cases hck : chkB ns links en tp with
  | false =>
    have hkw : chkW ns links en tp = 7 := by unfold chkW; rw [hck]; rfl
    rw [hkw] at HK
    clear hck hkw
    go_enter Try.func21, Try.ntmps21
    go_upto_region 1 with fail
    (try rw [hw1])
    clear hw1
    go_wp2_with (first
      | refine wpList_loadE LP _ rfl rfl rfl ?_
      | (go_at_call 32; (with_reducible refine HK.out.mono ?_); rintro e w2 ⟨rfl, b2⟩; have HB2 := Lib.hid (HB.out.trans (b2.mono HB.out.size)); clear b2))
    go_ret
    exact ⟨rfl, HB2.out⟩
  | true =>
    have hkw : chkW ns links en tp = 0 := by unfold chkW; rw [hck]; rfl
    rw [hkw] at HK
    clear hck hkw
    rw [Bool.true_and]
    go_enter Try.func21, Try.ntmps21
    go_upto_region 1 with fail
    (try rw [hw1])
    clear hw1
    go_upto_region 3 with (first
      | refine wpList_loadE LP _ rfl rfl rfl ?_
      | (go_at_call 32; (with_reducible refine HK.out.mono ?_); rintro e w2 ⟨rfl, b2⟩; have HB2 := Lib.hid b2; clear b2))
    clear HK LP
    have K2 : Hid (Blk w2 w.heap.size 24 (pgL A n c en tp)) := HC.out.below HB2.out HC.out.lt
    have HG2 := Lib.hid (HG.out.below (HB2.out.mono HB.out.size))
    have HBW := Lib.hid (HB.out.trans (HB2.out.mono HB.out.size))
    have c0 : w2.cell? ⟨w.heap.size, 0, none⟩ = some (.slice A n c) := K2.out.cell 0
    go_upto_region 4 with fail
    clear c0 HB2 HC HG HB
    go_loopw [14] (fun s14 wr => ∃ j : Nat, j ≤ n ∧ s14 = .int .i64 j ∧ Hid (∀ i, i < j → toldB (nAt ns i) (thN ns i) = true) ∧ Hid (Below w2.heap.size w2 wr)) (fun s14 _ => n - (intOf s14).toNat)
    case atStart => exact ⟨0, Nat.zero_le _, rfl, Lib.hid (fun i h => absurd h (by omega)), Below.refl _ _⟩
    case round =>
      obtain ⟨j, hj, rfl, hq, hbw⟩ := hrel
      by_cases hlt : j < n
      · have hsz := HBW.out.size
        have HGR := Lib.hid (HG2.out.below (hbw.out.mono hsz))
        have HKR := Lib.hid (K2.out.below hbw.out K2.out.lt)
        obtain ⟨b', o', d, rfl, hbb, hd, hr, hda⟩ := HGR.out.node hlt
        have LN := node_load hr
        have SN := node_put wr d
        have K1 := node_at wr d
        have bX := node_bel wr d
        obtain ⟨X1, hX1⟩ : ∃ y, (wr.alloc (.cells nd0.cells 42)).setCells wr.heap.size 0 d.cells.toList = y := ⟨_, rfl⟩
        rw [hX1] at SN K1 bX
        rw [nd0_lit] at SN
        have HK1 := Lib.hid K1
        have HND : Hid (nAt ns j = d) := nAt_of hd
        have HBX := Lib.hid (hbw.out.trans (bX.mono hbw.out.size))
        have HKX := Lib.hid (HKR.out.below bX HKR.out.lt)
        have LPX := plane_load HKX.out
        have HTH := Lib.hid (rf_there (some ⟨b', o', none⟩) n c ns en tp j X1 ((HGR.out.below (bX.mono (by have := hbw.out.size; omega))).more (by have := HKX.out.lt; omega)))
        rw [thB_nat] at HTH
        obtain ⟨th, hth⟩ : ∃ th, thN ns j = th := ⟨_, rfl⟩
        rw [hth] at HTH
        have HTHE := Lib.hid hth
        have HFN : Hid (toldB d th = false → tolB ns = false) := fun h => tol_no (i := j) (by have := HL.out; omega) (by rw [HND.out, HTHE.out]; exact h)
        have HFY : Hid (toldB d th = true → ∀ i, i < j + 1 → toldB (nAt ns i) (thN ns i) = true) := fun h i hi => by
          by_cases e : i = j
          · rw [e, HND.out, HTHE.out]; exact h
          · exact hq.out i (by omega)
        clear hd hr hda K1 bX hX1 hth hbb
        unfold pgL at LPX HTH
        go_upto_region 6 with (first | refine wpList_loadE LN _ rfl rfl rfl ?_ | refine wpList_storeE SN _ _ rfl rfl rfl rfl ?_)
        clear LN SN
        cases th with
        | true =>
          by_cases h4 : 4096 < d.vec.n
          · have HT : Hid (tolB ns = false) := HFN.out (by simp [toldB]; omega)
            go_wp2_with (first
              | refine wpList_loadE LPX _ rfl rfl rfl ?_
              | (go_at_call 23; (with_reducible refine HTH.out.mono ?_); rintro e X2 ⟨rfl, bx2⟩; have HBX2 := Lib.hid (HBX.out.trans (bx2.mono HBX.out.size)); have x1 : X2.cell? ⟨wr.heap.size, 1, none⟩ = some (.slice d.vec.A d.vec.n d.vec.c) := (HK1.out.below bx2 HK1.out.lt).cell 1; clear bx2))
            go_ret
            exact ⟨by rw [HT.out]; rfl, HBW.out.trans (HBX2.out.mono hsz)⟩
          · have HT := Lib.hid (HFY.out (by simp [toldB]; omega))
            go_wp2_with (first
              | refine wpList_loadE LPX _ rfl rfl rfl ?_
              | (go_at_call 23; (with_reducible refine HTH.out.mono ?_); rintro e X2 ⟨rfl, bx2⟩; have HBX2 := Lib.hid (HBX.out.trans (bx2.mono HBX.out.size)); have x1 : X2.cell? ⟨wr.heap.size, 1, none⟩ = some (.slice d.vec.A d.vec.n d.vec.c) := (HK1.out.below bx2 HK1.out.lt).cell 1; clear bx2))
            go_roundw
            case rel => exact ⟨j + 1, by omega, by go_num, HT, HBX2⟩
            case measure => simp [intOf]; omega
        | false =>
          obtain ⟨z, hz⟩ : ∃ z, toldB d false = z := ⟨_, rfl⟩
          have HZ := Lib.hid (rf_zero d)
          rw [hz] at HZ HFN HFY
          have hzv : z = true → d.vec.n = 0 := fun h => by subst h; simp [toldB] at hz; exact hz.1.1.2
          clear hz
          cases z with
          | false =>
            have HT := Lib.hid (HFN.out rfl)
            clear hzv
            go_wp2_with (first
              | refine wpList_loadE LPX _ rfl rfl rfl ?_
              | ((with_reducible refine wpList_loadG (op := ⟨some 24, _, _, _, _, _⟩) LN2 ?lgX ?lgW ?lgO ?lgE ?_); (case lgO => exact rfl); (case lgE => exact rfl); (case lgW => kernel_rfl))
              | (go_at_call 23; (with_reducible refine HTH.out.mono ?_); rintro e X2 ⟨rfl, bx2⟩; have HBX2 := Lib.hid (HBX.out.trans (bx2.mono HBX.out.size)); have HK2 := Lib.hid (HK1.out.below bx2 HK1.out.lt); have LN2 := load_node2 HK2.out; clear bx2)
              | (go_at_call 42; (with_reducible refine (HZ.out _).mono ?_); rintro e X3 ⟨rfl, bx3⟩; have HBX3 := Lib.hid (HBX2.out.trans (bx3.mono HBX2.out.size)); clear bx3))
            go_ret
            exact ⟨by rw [HT.out]; rfl, HBW.out.trans (HBX3.out.mono hsz)⟩
          | true =>
            have HT := Lib.hid (HFY.out rfl)
            have hv0 := hzv rfl
            clear hzv
            go_wp2_with (first
              | refine wpList_loadE LPX _ rfl rfl rfl ?_
              | ((with_reducible refine wpList_loadG (op := ⟨some 24, _, _, _, _, _⟩) LN2 ?lgX ?lgW ?lgO ?lgE ?_); (case lgO => exact rfl); (case lgE => exact rfl); (case lgW => kernel_rfl))
              | (go_at_call 23; (with_reducible refine HTH.out.mono ?_); rintro e X2 ⟨rfl, bx2⟩; have HBX2 := Lib.hid (HBX.out.trans (bx2.mono HBX.out.size)); have HK2 := Lib.hid (HK1.out.below bx2 HK1.out.lt); have LN2 := load_node2 HK2.out; clear bx2)
              | (go_at_call 42; (with_reducible refine (HZ.out _).mono ?_); rintro e X3 ⟨rfl, bx3⟩; have HBX3 := Lib.hid (HBX2.out.trans (bx3.mono HBX2.out.size)); have x1 : X3.cell? ⟨wr.heap.size, 1, none⟩ = some (.slice d.vec.A d.vec.n d.vec.c) := (HK2.out.below bx3 HK2.out.lt).cell 1; rw [hv0] at x1; clear bx3))
            go_roundw
            case rel => exact ⟨j + 1, by omega, by go_num, HT, HBX3⟩
            case measure => simp [intOf]; omega
      · obtain rfl : n = j := by omega
        have HT : Hid (tolB ns = true) := tol_yes (fun i hi => hq.out i (by have := HL.out; omega))
        have hsz := HBW.out.size
        go_wp2
        go_ret
        exact ⟨by rw [HT.out]; rfl, HBW.out.trans (hbw.out.mono hsz)⟩
theorem yieldsIf_catZ {ops : Array Oper} {S : World → Prop} {o : Oper} {a : Act} {l m : List Int} (hsz : l.length + m.length ≤ 9223372036854775807) (hw : Region.wanted o (yielded ops a.tmps) = true) (x y : Operand) (ho : o.op = .binOp .add 9 x y 9) (hx : a.eval x = .string (strOfNums l)) (hy : a.eval y = .string (strOfNums m)) : YieldsIf Try.prog ops S o (.string (strOfNums (l ++ m))) a :=
  yieldsIf_cat (str_append l m) (by rw [strOfNums_size, strOfNums_size]; exact hsz) hw x y ho hx hy
theorem rf_numM {z : Int} {m : List Int} (h : numsZ [z] = m) (w : World) : Calls Try.prog 22 #[.int .i64 z] w fun e w' => e = .returned (.string (strOfNums m)) ∧ Below w.heap.size w w' := by rw [← h]; exact rf_num z w
theorem num_1 (z : Int) : (numsZ [z]).length ≤ 10 := numsZ_len [z]
theorem u64_num {z : Int} (h : (Lit.int .u64 z).wf = true) (w : World) : Calls Try.prog 43 #[.int .u64 z] w fun e w' => e = .returned (.string (strOfNums (numsZ [z]))) ∧ Below w.heap.size w w' := by
  have := ref_num (nz z) (nz_lt z) w
  rw [← wf_u64 h] at this
  rw [numsZ_one]
  exact this
/-- A text of at most so many bytes. -/
theorem load_slice32 {w : World} {b o : Nat} {A : Option Addr} {n c : Nat} (h : w.cell? ⟨b, o, none⟩ = some (.slice A n c)) : (Instr.loadAt 37 (.pointer (some ⟨b, o, none⟩))).run Try.prog w = .ok (.slice A n c) w := by
  simp [go_sem, h]
set_option maxRecDepth 100000 in
set_option maxHeartbeats 4000000 in
theorem rf_nodeI (d : ND) (w : World) (hd : d.At w w.heap.size) (ht : (Lit.int .u64 d.tags).wf = true) (hv : d.vec.n ≤ 4096) (hl : d.ln ≤ 10) (hx : ∀ x ∈ d.ls, x.n ≤ 80) :
    Calls Try.prog 24 #[.agg d.cells] w fun e w' => e = .returned (.string (strOfNums (numsZ (ndZ d)))) ∧ Below w.heap.size w w' := by
  have HD := Lib.hid hd
  have hvl := hd.1.len
  have hlln := hd.len
  have HX : Hid (∀ x ∈ d.ls, (lsZ x).length ≤ 81) := fun x hx' => by
    have := hx x hx'
    have := (hd.2.2.2.2.1 x hx').len
    simp [lsZ]; omega
  have HXV : Hid (∀ z ∈ d.vec.xs, -2147483648 ≤ z ∧ z ≤ 2147483647) := fun z hz => wf_i32 (hd.1.2.2.2 z hz)
  have HID := Lib.hid (fun W => u64_num hd.2.2.2.2.2.1 W)
  have HTG := Lib.hid (fun W => u64_num ht W)
  obtain ⟨w1, hw1⟩ : ∃ x, w.alloc (.cells d.cells 42) = x := ⟨_, rfl⟩
  have HB1 : Hid (Below w.heap.size w w1) := by show Below _ _ _; rw [← hw1]; exact bel_boxI _ _
  have HK1 : Hid (Blk w1 w.heap.size 42 d.cells) := by show Blk _ _ _ _; rw [← hw1]; exact Blk.new _ _ _
  clear hd hx ht
  obtain ⟨id, ⟨VA, vn, vc, vxs⟩, tags, level, LA, ln, lc, ls, next, prev⟩ := d
  dsimp only at *
  simp only [ND.cells, IS.v] at hw1 HK1 ⊢
  have hap := str_append
  have hss := strOfNums_size
  obtain ⟨m1, hm1⟩ : ∃ m, numsZ [(1 : Int)] = m := ⟨_, rfl⟩
  obtain ⟨m2, hm2⟩ : ∃ m, numsZ [id] = m := ⟨_, rfl⟩
  obtain ⟨m3, hm3⟩ : ∃ m, numsZ [tags] = m := ⟨_, rfl⟩
  obtain ⟨m4, hm4⟩ : ∃ m, numsZ [(vn : Int)] = m := ⟨_, rfl⟩
  have l1 : m1.length ≤ 10 := by rw [← hm1]; exact num_1 _
  have l2 : m2.length ≤ 10 := by rw [← hm2]; exact num_1 _
  have l3 : m3.length ≤ 10 := by rw [← hm3]; exact num_1 _
  have l4 : m4.length ≤ 10 := by rw [← hm4]; exact num_1 _
  rw [hm2] at HID
  rw [hm3] at HTG
  have HM1 := Lib.hid hm1
  have HM4 := Lib.hid hm4
  have HM : Hid (m1 ++ m2 ++ m3 ++ m4 = numsZ [1, id, tags, (vn : Int)]) := by show _ = _; rw [← hm1, ← hm2, ← hm3, ← hm4]; simp [numsZ]
  clear hm1 hm2 hm3 hm4
  go_enter Try.func24, Try.ntmps24
  go_upto_region 1 with fail
  (try rw [hw1])
  clear hw1
  refine wp_region_held_drew (S := fun W' => Below w1.heap.size w1 W') (by kernel_rfl) (below_drewN (Below.refl _ w1) 1) (fun hH => ?_)
  refine wpAnyH_take (i := 1) (v := .pointer (some ⟨w.heap.size, 0, none⟩)) rfl (by kernel_rfl) (by kernel_rfl) (by kernel_rfl) (fun _ _ _ h => h) (.inl ⟨by rfl, fun _ _ => by kernel_rfl⟩) hH ?_
  (try simp only [List.getElem_toArray, List.getElem_cons_zero, List.getElem_cons_succ, Act.put, List.setIfInBounds_toArray, List.set_cons_zero, List.set_cons_succ])
  refine wpAnyH_take (i := 2) (v := .pointer (some ⟨w.heap.size, 0, none⟩)) rfl (by kernel_rfl) (by kernel_rfl) (by kernel_rfl) (fun _ _ _ h => h) (.inl ⟨by rfl, fun _ _ => by kernel_rfl⟩) hH ?_
  (try simp only [List.getElem_toArray, List.getElem_cons_zero, List.getElem_cons_succ, Act.put, List.setIfInBounds_toArray, List.set_cons_zero, List.set_cons_succ])
  refine wpAnyH_take (i := 3) (v := .int .u64 id) rfl (by kernel_rfl) (by kernel_rfl) (by kernel_rfl) (fun _ _ _ h => h) (yieldsIf_loadP (by rfl) _ rfl rfl (fun _ q => load_u64I ((HK1.out.below q HK1.out.lt).cell 0))) hH ?_
  (try simp only [List.getElem_toArray, List.getElem_cons_zero, List.getElem_cons_succ, Act.put, List.setIfInBounds_toArray, List.set_cons_zero, List.set_cons_succ])
  refine wpAnyH_take (i := 6) (v := .pointer (some ⟨w.heap.size, 0, none⟩)) rfl (by kernel_rfl) (by kernel_rfl) (by kernel_rfl) (fun _ _ _ h => h) (.inl ⟨by rfl, fun _ _ => by kernel_rfl⟩) hH ?_
  (try simp only [List.getElem_toArray, List.getElem_cons_zero, List.getElem_cons_succ, Act.put, List.setIfInBounds_toArray, List.set_cons_zero, List.set_cons_succ])
  refine wpAnyH_take (i := 7) (v := .pointer (some ⟨w.heap.size, 2, none⟩)) rfl (by kernel_rfl) (by kernel_rfl) (by kernel_rfl) (fun _ _ _ h => h) (.inl ⟨by rfl, fun _ _ => by kernel_rfl⟩) hH ?_
  (try simp only [List.getElem_toArray, List.getElem_cons_zero, List.getElem_cons_succ, Act.put, List.setIfInBounds_toArray, List.set_cons_zero, List.set_cons_succ])
  refine wpAnyH_take (i := 8) (v := .int .u64 tags) rfl (by kernel_rfl) (by kernel_rfl) (by kernel_rfl) (fun _ _ _ h => h) (yieldsIf_loadP (by rfl) _ rfl rfl (fun _ q => load_u64I ((HK1.out.below q HK1.out.lt).cell 2))) hH ?_
  (try simp only [List.getElem_toArray, List.getElem_cons_zero, List.getElem_cons_succ, Act.put, List.setIfInBounds_toArray, List.set_cons_zero, List.set_cons_succ])
  refine wpAnyH_take (i := 11) (v := .pointer (some ⟨w.heap.size, 0, none⟩)) rfl (by kernel_rfl) (by kernel_rfl) (by kernel_rfl) (fun _ _ _ h => h) (.inl ⟨by rfl, fun _ _ => by kernel_rfl⟩) hH ?_
  (try simp only [List.getElem_toArray, List.getElem_cons_zero, List.getElem_cons_succ, Act.put, List.setIfInBounds_toArray, List.set_cons_zero, List.set_cons_succ])
  refine wpAnyH_take (i := 12) (v := .pointer (some ⟨w.heap.size, 1, none⟩)) rfl (by kernel_rfl) (by kernel_rfl) (by kernel_rfl) (fun _ _ _ h => h) (.inl ⟨by rfl, fun _ _ => by kernel_rfl⟩) hH ?_
  (try simp only [List.getElem_toArray, List.getElem_cons_zero, List.getElem_cons_succ, Act.put, List.setIfInBounds_toArray, List.set_cons_zero, List.set_cons_succ])
  refine wpAnyH_take (i := 13) (v := .slice VA vn vc) rfl (by kernel_rfl) (by kernel_rfl) (by kernel_rfl) (fun _ _ _ h => h) (yieldsIf_loadP (by rfl) _ rfl rfl (fun _ q => load_slice32 ((HK1.out.below q HK1.out.lt).cell 1))) hH ?_
  (try simp only [List.getElem_toArray, List.getElem_cons_zero, List.getElem_cons_succ, Act.put, List.setIfInBounds_toArray, List.set_cons_zero, List.set_cons_succ])
  refine wpAnyH_take (i := 14) (v := .int .i64 (vn : Int)) rfl (by kernel_rfl) (by kernel_rfl) (by kernel_rfl) (fun _ _ _ h => h) (.inl ⟨by rfl, fun _ _ => by kernel_rfl⟩) hH ?_
  (try simp only [List.getElem_toArray, List.getElem_cons_zero, List.getElem_cons_succ, Act.put, List.setIfInBounds_toArray, List.set_cons_zero, List.set_cons_succ])
  refine wpAnyH_call 0 22 #[.int .i64 1] _ (by kernel_rfl) (by rfl) (by kernel_rfl) (by kernel_rfl) (rf_numM HM1.out _) ?_
  rintro e Y1 ⟨rfl, hb⟩
  have hHY1 := hH.trans (hb.mono hH.size)
  clear hb
  refine ⟨_, rfl, hHY1, ?_⟩
  (try simp only [List.getElem_toArray, List.getElem_cons_zero, Act.put, List.setIfInBounds_toArray, List.set_cons_zero, List.set_cons_succ])
  refine wpAnyH_call 4 43 #[.int .u64 id] _ (by kernel_rfl) (by rfl) (by kernel_rfl) (by kernel_rfl) (HID.out _) ?_
  rintro e Y2 ⟨rfl, hb⟩
  have hHY2 := hHY1.trans (hb.mono hHY1.size)
  clear hb
  refine ⟨_, rfl, hHY2, ?_⟩
  (try simp only [List.getElem_toArray, List.getElem_cons_zero, List.getElem_cons_succ, Act.put, List.setIfInBounds_toArray, List.set_cons_zero, List.set_cons_succ])
  refine wpAnyH_take (i := 5) (v := .string (strOfNums (m1 ++ m2))) rfl (by kernel_rfl) (by kernel_rfl) (by kernel_rfl) (fun _ _ _ h => h) (yieldsIf_catZ (by (try simp only [List.length_append]); omega) (by rfl) _ _ rfl rfl rfl) hHY2 ?_
  (try simp only [List.getElem_toArray, List.getElem_cons_zero, List.getElem_cons_succ, Act.put, List.setIfInBounds_toArray, List.set_cons_zero, List.set_cons_succ])
  refine wpAnyH_call 9 43 #[.int .u64 tags] _ (by kernel_rfl) (by rfl) (by kernel_rfl) (by kernel_rfl) (HTG.out _) ?_
  rintro e Y3 ⟨rfl, hb⟩
  have hHY3 := hHY2.trans (hb.mono hHY2.size)
  clear hb
  refine ⟨_, rfl, hHY3, ?_⟩
  (try simp only [List.getElem_toArray, List.getElem_cons_zero, List.getElem_cons_succ, Act.put, List.setIfInBounds_toArray, List.set_cons_zero, List.set_cons_succ])
  refine wpAnyH_take (i := 10) (v := .string (strOfNums (m1 ++ m2 ++ m3))) rfl (by kernel_rfl) (by kernel_rfl) (by kernel_rfl) (fun _ _ _ h => h) (yieldsIf_catZ (by (try simp only [List.length_append]); omega) (by rfl) _ _ rfl rfl rfl) hHY3 ?_
  (try simp only [List.getElem_toArray, List.getElem_cons_zero, List.getElem_cons_succ, Act.put, List.setIfInBounds_toArray, List.set_cons_zero, List.set_cons_succ])
  refine wpAnyH_call 15 22 #[.int .i64 (vn : Int)] _ (by kernel_rfl) (by rfl) (by kernel_rfl) (by kernel_rfl) (rf_numM HM4.out _) ?_
  rintro e w2 ⟨rfl, hb⟩
  have hHw2 := hHY3.trans (hb.mono hHY3.size)
  clear hb
  refine ⟨_, rfl, hHw2, ?_⟩
  (try simp only [List.getElem_toArray, List.getElem_cons_zero, List.getElem_cons_succ, Act.put, List.setIfInBounds_toArray, List.set_cons_zero, List.set_cons_succ])
  refine wpAnyH_take (i := 16) (v := .string (strOfNums (m1 ++ m2 ++ m3 ++ m4))) rfl (by kernel_rfl) (by kernel_rfl) (by kernel_rfl) (fun _ _ _ h => h) (yieldsIf_catZ (by (try simp only [List.length_append]); omega) (by rfl) _ _ rfl rfl rfl) hHw2 ?_
  (try simp only [List.getElem_toArray, List.getElem_cons_zero, List.getElem_cons_succ, Act.put, List.setIfInBounds_toArray, List.set_cons_zero, List.set_cons_succ])
  refine wpAnyH_take (i := 17) (v := .string (strOfNums (m1 ++ m2 ++ m3 ++ m4))) rfl (by kernel_rfl) (by kernel_rfl) (by kernel_rfl) (fun _ _ _ h => h) (.inl ⟨by rfl, fun _ _ => by kernel_rfl⟩) hHw2 ?_
  (try simp only [List.getElem_toArray, List.getElem_cons_zero, List.getElem_cons_succ, Act.put, List.setIfInBounds_toArray, List.set_cons_zero, List.set_cons_succ])
  refine wpAnyH_done (by kernel_rfl) ?_ _
  have HB5 := Lib.hid hHw2
  have HK2 := Lib.hid (HK1.out.below hHw2 HK1.out.lt)
  clear hH hHY1 hHY2 hHY3 hHw2
  clear HM1 HM4 HID HTG HK1
  have HB2 := Lib.hid (HB1.out.trans (HB5.out.mono HB1.out.size))
  have hls : (m1 ++ m2 ++ m3 ++ m4).length ≤ 40 := by simp only [List.length_append]; omega
  obtain ⟨S0, hS0⟩ : ∃ S, m1 ++ m2 ++ m3 ++ m4 = S := ⟨_, rfl⟩
  rw [hS0] at HM hls
  try rw [hS0]
  clear hS0 l1 l2 l3 l4 HB1 HB5
  (try simp only [List.append_assoc])
  have c1 : w2.cell? ⟨w.heap.size, 1, none⟩ = some (.slice VA vn vc) := HK2.out.cell 1
  go_upto_region 3 with fail
  clear c1
  go_loopw [3, 5, 31] (fun s3 _ s31 wr => ∃ (k : Nat) (S : List Int), k ≤ vn ∧ s31 = .int .i64 k ∧ s3 = .string (strOfNums S) ∧ Hid (S = numsZ ([1, id, tags, (vn : Int)] ++ (vxs.take k).map zigF)) ∧ Hid (Below w2.heap.size w2 wr)) (fun _ _ s31 _ => vn - (intOf s31).toNat)
  case atStart => exact ⟨0, S0, Nat.zero_le _, rfl, rfl, by show _ = _; rw [HM.out]; simp, Below.refl _ _⟩
  case round =>
    obtain ⟨k, S, hk, rfl, rfl, hS, hb⟩ := hrel
    have hsl : S.length ≤ 50000 := by
      rw [hS.out]
      have := numsZ_len ([1, id, tags, (vn : Int)] ++ (vxs.take k).map zigF)
      rw [List.length_append, List.length_map, List.length_take] at this
      simp only [List.length_cons, List.length_nil] at this
      omega
    by_cases hlt : k < vn
    · obtain ⟨a, o, rfl, _, hc⟩ := (HD.out.below (HB2.out.trans (hb.out.mono HB2.out.size))).1.2.2.1.atI hlt
      have hzb : -2147483648 ≤ ig vxs k ∧ ig vxs k ≤ 2147483647 := HXV.out _ (by rw [ig, List.getD_eq_getElem?_getD, List.getElem?_eq_getElem (show k < vxs.length by omega)]; exact List.getElem_mem _)
      have HMS := Lib.hid (map_step (vxs := vxs) (k := k) (by omega))
      dsimp only at hc
      obtain ⟨z, hz⟩ : ∃ z, ig vxs k = z := ⟨_, rfl⟩
      rw [hz] at hc hzb HMS
      clear hz
      obtain ⟨zg1, zg2, zg3⟩ := zagzig z (by omega) (by omega)
      obtain ⟨m, hm⟩ := Int.eq_ofNat_of_zero_le zg2
      have hml := (len_num m).1
      have HZG : Hid (∀ W, Calls Try.prog 44 #[.int .i64 z] W fun e w' => e = .returned (.int .u64 ((m : Nat) : Int)) ∧ W = w') := fun W => by
        have := ref_zig z (by omega) (by omega) W
        rw [hm] at this
        exact this
      rw [hm] at HMS
      have HNM := Lib.hid (fun W => ref_num m (by omega) W)
      have HM2 : Hid (numL m = numsZ [((m : Nat) : Int)]) := by show _ = _; rw [numsZ_one, nz_nat (by omega)]
      have hz1 := hzb.1
      have hz2 := hzb.2
      clear zg1 zg2 zg3 hm hzb
      go_wp2_with (first
        | (go_at_call 44; (with_reducible refine (HZG.out _).mono ?_); rintro e W1 ⟨rfl, rfl⟩)
        | (go_at_call 43; (with_reducible refine (HNM.out _).mono ?_); rintro e W2 ⟨rfl, hb2⟩; have HB9 := Lib.hid (hb.out.trans (hb2.mono hb.out.size)); clear hb2))
      clear HZG HNM
      go_roundw
      case rel => exact ⟨k + 1, S ++ numL m, by omega, by go_num, rfl, by show _ = _; rw [HMS.out, ← List.append_assoc, numsZ_app, ← hS.out, HM2.out], HB9⟩
      case measure => simp [intOf]; omega
    · obtain rfl : vn = k := by omega
      have hE : vxs.take vn = vxs := List.take_of_length_le (by omega)
      rw [hE] at hS
      have HKR := Lib.hid (HK2.out.below hb.out HK2.out.lt)
      have HBR := Lib.hid (HB2.out.trans (hb.out.mono HB2.out.size))
      have c3 : wr.cell? ⟨w.heap.size, 3, none⟩ = some (.int .i64 level) := HKR.out.cell 3
      obtain ⟨m5, hm5⟩ : ∃ m, numsZ [level] = m := ⟨_, rfl⟩
      have l5 : m5.length ≤ 10 := by rw [← hm5]; exact num_1 _
      have HM5 := Lib.hid hm5
      clear hE hlt hk hm5 HXV HK2 HB2 hb
      go_upto_region 8 with (go_at_call 22; (with_reducible refine (rf_numM HM5.out _).mono ?_); rintro e w7 ⟨rfl, h7⟩; have HB7 := Lib.hid (HBR.out.trans (h7.mono HBR.out.size)); have HK7 := Lib.hid (HKR.out.below h7 HKR.out.lt); clear h7)
      clear c3
      have HS5 : Hid (S ++ m5 = numsZ ([1, id, tags, (vn : Int)] ++ vxs.map zigF ++ [level])) := by show _ = _; rw [numsZ_app, ← hS.out, HM5.out]
      have hsl5 : (S ++ m5).length ≤ 50010 := by rw [List.length_append]; omega
      obtain ⟨S5, hS5⟩ : ∃ q, S ++ m5 = q := ⟨_, rfl⟩
      rw [hS5] at HS5 hsl5
      try rw [hS5]
      clear hS5 hsl l5 HM5 hS HBR HKR
      have c4 : w7.cell? ⟨w.heap.size, 4, none⟩ = some (.slice LA ln lc) := HK7.out.cell 4
      go_upto_region 9 with fail
      clear c4
      go_loopw [3, 7, 9, 50] (fun s3 _ _ s50 wq => ∃ (j : Nat) (S : List Int), j ≤ ln ∧ s50 = .int .i64 j ∧ s3 = .string (strOfNums S) ∧ Hid (S = numsZ ([1, id, tags, (vn : Int)] ++ vxs.map zigF ++ [level] ++ (ls.take j).flatMap lsZ)) ∧ Hid (Below w7.heap.size w7 wq)) (fun _ _ _ s50 _ => ln - (intOf s50).toNat)
      case atStart => exact ⟨0, S5, Nat.zero_le _, rfl, rfl, by show _ = _; rw [HS5.out]; simp, Below.refl _ _⟩
      case round =>
        obtain ⟨j, S, hj, rfl, rfl, hS, hb⟩ := hrel
        have hfl : ((ls.take j).flatMap lsZ).length ≤ 81 * j := flat_le HX.out j
        have hsl : S.length ≤ 60000 := by
          rw [hS.out]
          have := numsZ_len ([1, id, tags, (vn : Int)] ++ vxs.map zigF ++ [level] ++ (ls.take j).flatMap lsZ)
          simp only [List.length_append, List.length_map, List.length_cons, List.length_nil] at this
          omega
        have HBR := Lib.hid (HB7.out.trans (hb.out.mono HB7.out.size))
        by_cases hlt : j < ln
        · obtain ⟨a, o, x, eA, _, hx, hc, _⟩ := (HD.out.below HBR.out).list hlt
          have hxa := HD.out.2.2.2.2.1 x (List.mem_of_getElem? hx)
          have HFS := Lib.hid (flat_step hx)
          have hxn := HX.out x (List.mem_of_getElem? hx)
          obtain ⟨XA, xn, xc, xxs⟩ := x
          simp only [IS.v] at hc
          have hxl : xxs.length = xn := hxa.len
          have hxn2 : xn ≤ 80 := by simp [lsZ] at hxn; omega
          have HXA := Lib.hid hxa
          dsimp only at eA
          subst eA
          obtain ⟨m6, hm6⟩ : ∃ m, numsZ [(xn : Int)] = m := ⟨_, rfl⟩
          have l6 : m6.length ≤ 10 := by rw [← hm6]; exact num_1 _
          have HM6 := Lib.hid hm6
          clear hx hxa hxn hm6 hfl
          go_upto_region 13 with (go_at_call 22; (with_reducible refine (rf_numM HM6.out _).mono ?_); rintro e w8 ⟨rfl, h8⟩; have HB8 := Lib.hid (hb.out.trans (h8.mono hb.out.size)); clear h8)
          have hBq := Lib.hid (HB7.out.trans (HB8.out.mono HB7.out.size))
          have HL1 : Hid ((S ++ m6).length ≤ 60010) := by show _ ≤ _; rw [List.length_append]; omega
          clear HBR
          go_loopw [3, 9, 61] (fun s3 _ s61 wz => ∃ (i : Nat) (S' : List Int), i ≤ xn ∧ s61 = .int .i64 i ∧ s3 = .string (strOfNums S') ∧ Hid (S' = S ++ m6 ++ numsZ (xxs.take i)) ∧ Hid (Below w8.heap.size w8 wz)) (fun _ _ s61 _ => xn - (intOf s61).toNat)
          case atStart => exact ⟨0, S ++ m6, Nat.zero_le _, rfl, rfl, by show _ = _; simp [numsZ], Below.refl _ _⟩
          case round =>
            obtain ⟨i, S', hi, rfl, rfl, hS', hbz⟩ := hrel
            have hsl' : S'.length ≤ 70000 := by
              rw [hS'.out, List.length_append]
              have := numsZ_len (xxs.take i)
              rw [List.length_take] at this
              have := HL1.out
              omega
            have HBZ := Lib.hid (HB8.out.trans (hbz.out.mono HB8.out.size))
            by_cases hil : i < xn
            · obtain ⟨a2, o2, rfl, _, hc2⟩ := (HXA.out.below (HB7.out.trans (HBZ.out.mono HB7.out.size))).2.2.1.atI hil
              dsimp only at hc2
              have HTS := Lib.hid (take_step (zs := xxs) (k := i) (by omega))
              obtain ⟨z, hz⟩ : ∃ z, ig xxs i = z := ⟨_, rfl⟩
              rw [hz] at hc2 HTS
              clear hz
              obtain ⟨m7, hm7⟩ : ∃ m, numsZ [z] = m := ⟨_, rfl⟩
              have l7 : m7.length ≤ 10 := by rw [← hm7]; exact num_1 _
              have HM7 := Lib.hid hm7
              clear hm7
              go_wp2_with (go_at_call 22; (with_reducible refine (rf_numM HM7.out _).mono ?_); rintro e w9 ⟨rfl, h9⟩; have HB9 := Lib.hid (hbz.out.trans (h9.mono hbz.out.size)); clear h9)
              go_roundw
              case rel => exact ⟨i + 1, S' ++ m7, by omega, by go_num, rfl, by show _ = _; rw [HTS.out, numsZ_app, ← List.append_assoc, ← hS'.out, HM7.out], HB9⟩
              case measure => simp [intOf]; omega
            · obtain rfl : xn = i := by omega
              have hE : xxs.take xn = xxs := List.take_of_length_le (by omega)
              rw [hE] at hS'
              clear hE
              go_wp2_with fail
              go_roundw
              case rel => exact ⟨j + 1, S', by omega, by go_num, rfl, by
                show _ = _
                rw [HFS.out, ← List.append_assoc, numsZ_app, ← hS.out, hS'.out]
                show _ = S ++ numsZ ([((xn : Nat) : Int)] ++ xxs)
                rw [numsZ_app, HM6.out, List.append_assoc], HBZ⟩
              case measure => simp [intOf]; omega
        · obtain rfl : ln = j := by omega
          have hE : ls.take ln = ls := List.take_of_length_le (by omega)
          rw [hE] at hS hfl
          have HKR := Lib.hid (HK7.out.below hb.out HK7.out.lt)
          obtain ⟨m8, hm8⟩ : ∃ m, numsZ [next] = m := ⟨_, rfl⟩
          have l8 : m8.length ≤ 10 := by rw [← hm8]; exact num_1 _
          obtain ⟨m9, hm9⟩ : ∃ m, numsZ [prev] = m := ⟨_, rfl⟩
          have l9 : m9.length ≤ 10 := by rw [← hm9]; exact num_1 _
          have HM8 := Lib.hid hm8
          have HM9 := Lib.hid hm9
          have HE : Hid (numsZ ([1, id, tags, ((vn : Nat) : Int)] ++ vxs.map zigF ++ [level] ++ ls.flatMap lsZ ++ [next, prev]) = S ++ m8 ++ m9) := by
            show _ = _
            rw [numsZ_app _ [next, prev], ← hS.out, show [next, prev] = [next] ++ [prev] from rfl, numsZ_app [next], hm8, hm9, List.append_assoc]
          clear hE hm8 hm9 hlt
          go_upto_region 18 with fail
          refine wp_region_held_drew (S := fun W' => Below wr.heap.size wr W') (by kernel_rfl) (below_drewN (Below.refl _ wr) 1) (fun hH => ?_)
          refine wpAnyH_take (i := 0) (v := .string (strOfNums S)) rfl (by kernel_rfl) (by kernel_rfl) (by kernel_rfl) (fun _ _ _ h => h) (.inl ⟨by rfl, fun _ _ => by kernel_rfl⟩) hH ?_
          (try simp only [List.getElem_toArray, List.getElem_cons_zero, Act.put, List.setIfInBounds_toArray, List.set_cons_zero, List.set_cons_succ])
          refine wpAnyH_take (i := 1) (v := .pointer (some ⟨w.heap.size, 5, none⟩)) rfl (by kernel_rfl) (by kernel_rfl) (by kernel_rfl) (fun _ _ _ h => h) (.inl ⟨by rfl, fun _ _ => by kernel_rfl⟩) hH ?_
          (try simp only [List.getElem_toArray, List.getElem_cons_zero, List.getElem_cons_succ, Act.put, List.setIfInBounds_toArray, List.set_cons_zero, List.set_cons_succ])
          refine wpAnyH_take (i := 2) (v := .int .i64 next) rfl (by kernel_rfl) (by kernel_rfl) (by kernel_rfl) (fun _ _ _ h => h) (yieldsIf_loadP (by rfl) _ rfl rfl (fun _ q => load_i64 ((HKR.out.below q HKR.out.lt).cell 5))) hH ?_
          (try simp only [List.getElem_toArray, List.getElem_cons_zero, List.getElem_cons_succ, Act.put, List.setIfInBounds_toArray, List.set_cons_zero, List.set_cons_succ])
          refine wpAnyH_take (i := 5) (v := .pointer (some ⟨w.heap.size, 6, none⟩)) rfl (by kernel_rfl) (by kernel_rfl) (by kernel_rfl) (fun _ _ _ h => h) (.inl ⟨by rfl, fun _ _ => by kernel_rfl⟩) hH ?_
          (try simp only [List.getElem_toArray, List.getElem_cons_zero, List.getElem_cons_succ, Act.put, List.setIfInBounds_toArray, List.set_cons_zero, List.set_cons_succ])
          refine wpAnyH_take (i := 6) (v := .int .i64 prev) rfl (by kernel_rfl) (by kernel_rfl) (by kernel_rfl) (fun _ _ _ h => h) (yieldsIf_loadP (by rfl) _ rfl rfl (fun _ q => load_i64 ((HKR.out.below q HKR.out.lt).cell 6))) hH ?_
          (try simp only [List.getElem_toArray, List.getElem_cons_zero, List.getElem_cons_succ, Act.put, List.setIfInBounds_toArray, List.set_cons_zero, List.set_cons_succ])
          refine wpAnyH_call 3 22 #[.int .i64 next] _ (by kernel_rfl) (by rfl) (by kernel_rfl) (by kernel_rfl) (rf_numM HM8.out _) ?_
          rintro e Y1 ⟨rfl, hb⟩
          have hHY1 := hH.trans (hb.mono hH.size)
          clear hb
          refine ⟨_, rfl, hHY1, ?_⟩
          (try simp only [List.getElem_toArray, List.getElem_cons_zero, List.getElem_cons_succ, Act.put, List.setIfInBounds_toArray, List.set_cons_zero, List.set_cons_succ])
          refine wpAnyH_take (i := 4) (v := .string (strOfNums (S ++ m8))) rfl (by kernel_rfl) (by kernel_rfl) (by kernel_rfl) (fun _ _ _ h => h) (yieldsIf_catZ (by (try simp only [List.length_append]); omega) (by rfl) _ _ rfl rfl rfl) hHY1 ?_
          (try simp only [List.getElem_toArray, List.getElem_cons_zero, List.getElem_cons_succ, Act.put, List.setIfInBounds_toArray, List.set_cons_zero, List.set_cons_succ])
          refine wpAnyH_call 7 22 #[.int .i64 prev] _ (by kernel_rfl) (by rfl) (by kernel_rfl) (by kernel_rfl) (rf_numM HM9.out _) ?_
          rintro e Y2 ⟨rfl, hb⟩
          have hHY2 := hHY1.trans (hb.mono hHY1.size)
          clear hb
          refine ⟨_, rfl, hHY2, ?_⟩
          (try simp only [List.getElem_toArray, List.getElem_cons_zero, List.getElem_cons_succ, Act.put, List.setIfInBounds_toArray, List.set_cons_zero, List.set_cons_succ])
          refine wpAnyH_take (i := 8) (v := .string (strOfNums (S ++ m8 ++ m9))) rfl (by kernel_rfl) (by kernel_rfl) (by kernel_rfl) (fun _ _ _ h => h) (yieldsIf_catZ (by (try simp only [List.length_append]); omega) (by rfl) _ _ rfl rfl rfl) hHY2 ?_
          (try simp only [List.getElem_toArray, List.getElem_cons_zero, List.getElem_cons_succ, Act.put, List.setIfInBounds_toArray, List.set_cons_zero, List.set_cons_succ])
          refine wpAnyH_take (i := 9) (v := .string (strOfNums (S ++ m8 ++ m9))) rfl (by kernel_rfl) (by kernel_rfl) (by kernel_rfl) (fun _ _ _ h => h) (.inl ⟨by rfl, fun _ _ => by kernel_rfl⟩) hHY2 ?_
          (try simp only [List.getElem_toArray, List.getElem_cons_zero, List.getElem_cons_succ, Act.put, List.setIfInBounds_toArray, List.set_cons_zero, List.set_cons_succ])
          refine wpAnyH_done (by kernel_rfl) ?_ _
          have HBE := Lib.hid hHY2
          clear hH hHY1 hHY2
          go_wp2_with fail
          go_ret
          exact ⟨by show _ = Ending.returned (Value.string (strOfNums (numsZ ([1, id, tags, ((vn : Nat) : Int)] ++ vxs.map zigF ++ [level] ++ ls.flatMap lsZ ++ [next, prev])))); rw [HE.out]; first | rfl | (rw [List.append_assoc]; rfl), HBR.out.trans (HBE.out.mono HBR.out.size)⟩
theorem BwS.new {w w1 : World} {B : Nat} (hB : B ≤ w.heap.size) (h : w.alloc (.cells #[.pointer none, .slice none 0 0] 50) = w1) : BwS w1 B w.heap.size [] := by
  subst h
  exact .inl ⟨hB, .slice none 0 0, Blk.new _ _ _, ⟨rfl, .inl ⟨rfl, rfl⟩⟩, by simp [Value.ownBlock]⟩
theorem load_node {w : World} {b : Nat} {d : ND} (h : Blk w b 42 d.cells) : (Instr.loadAt 42 (.pointer (some ⟨b, 0, none⟩))).run Try.prog w = .ok (.agg d.cells) w := row_load h Try.underlying42 rfl nodeT
theorem wpAnyH_mk {P : Program} {ops : Array Oper} {Q : Exit → Act → World → Prop} {md : Region.Mode} {S : World → Prop} {fuel : Nat} {listed : Array Bool} {a : Act} {w w' : World} {o : Oper} (i : Nat) (v : Value) (hr : Region.ready md ops listed = [i]) (ho : ops[i]? = some o) (hw : Region.wanted o (yielded ops a.tmps) = true)
    (hrun : (execOp a.eval o).run P w = .ok (.value v) w') (hS : S w') (h : wpAnyH P md ops Q S fuel (listed.setIfInBounds i true) (a.put o.dst v) w') : wpAnyH P md ops Q S (fuel + 1) listed a w := by
  refine wpAnyH_ready hr (by simp) (AllReadyH.cons ho (fun K hK => ?_) AllReadyH.nil)
  rw [if_pos hw]
  unfold Oper.wp
  rw [hrun]
  exact hK.out _ _ hS (fun _ => h)
theorem numsZ_bytes : ∀ zs : List Int, Bytes (numsZ zs)
  | [] => Bytes.nil
  | z :: zs => by
    have e : numsZ (z :: zs) = numL (nz z) ++ numsZ zs := by simp [numsZ]
    rw [e]
    exact (bytes_num _).append (numsZ_bytes zs)
theorem putL_bytes (ns : List ND) (links en tp : Int) : Bytes (putL ns links en tp) := (bytes_of_all (by decide)).append (numsZ_bytes _)
/-- A text, and why there is none. -/
def RetPI (l : List Int) (e : Int) (w : World) (x : Ending) (w' : World) : Prop := x = .returned (.tuple #[.string (strOfNums l), .int .i64 e]) ∧ Below w.heap.size w w'
def PG : Nat := 24
theorem NI.wnode {w W : World} {B b g0 T : Nat} {l zs : List Int} {cs : Array Value} (hl : l.length ≤ 1000) (h : NI w B b l g0 T cs W zs) (hz : zs.length ≤ 21000000) (d : ND) (hd : d.At w B) (ht : (Lit.int .u64 d.tags).wf = true) (hv : d.vec.n ≤ 4096) (hln : d.ln ≤ 10) (hx : ∀ x ∈ d.ls, x.n ≤ 80) :
    Calls Try.prog 18 #[.pointer (some ⟨b, 0, none⟩), .agg d.cells] W fun e w' => e = .returned (.tuple #[]) ∧ NI w B b l g0 T cs w' (zs ++ ndZ d) := by
  have hn := numsZ_len zs
  refine (wr_node B b (l ++ numsZ zs) d W h.1 (hd.below h.2.1.1) ht hv hln hx (by rw [List.length_append]; omega)).mono ?_
  rintro e w' ⟨rfl, h1, h2⟩
  exact ⟨rfl, h.wrote h1 h2 rfl⟩
set_option maxRecDepth 100000 in
set_option maxHeartbeats 4000000 in
theorem im_put (A : Option Addr) (n c : Nat) (ns : List ND) (en tp links : Int) (w : World) (hg : PgAt w w.heap.size A n c ns) (ht : ∀ d ∈ ns, (Lit.int .u64 d.tags).wf = true) :
    Calls Try.prog 7 #[.agg (pgL A n c en tp), .int .i64 links] w (RetPI (putS ns links en tp) (putE ns links en tp) w) := by
  obtain ⟨w1, hw1⟩ : ∃ x, w.alloc (.cells (pgL A n c en tp) 24) = x := ⟨_, rfl⟩
  obtain ⟨C1, b1⟩ := box_plane hw1
  have hn := hg.2.1
  have HL := Lib.hid hg.len
  have HG := Lib.hid (hg.below b1)
  have HT := Lib.hid ht
  have HC := Lib.hid C1
  have HB := Lib.hid b1
  have LP := plane_load C1
  have HK := Lib.hid (pl_check A n c ns en tp links w1 (hg.on b1 b1.size))
  clear hg C1 b1 ht
  unfold pgL at hw1 LP HK ⊢
  by_cases hlk : links < 1 ∨ 32 < links
  · obtain ⟨e1, e2⟩ := put_far (ns := ns) (en := en) (tp := tp) hlk
    have E1 := Lib.hid e1
    have E2 := Lib.hid e2
    clear e1 e2 LP
    by_cases h1 : links < 1
    · clear hlk
      go_enter Try.func7, Try.ntmps7
      go_upto_region 1 with fail
      (try rw [hw1])
      clear hw1
      go_wp2_with fail
      refine bodyPost_ret (v := .tuple #[.string (strOfNums []), .int .i64 6]) (by simp [results, Try.results7, go_sem]; rfl) rfl ?_
      exact ⟨by rw [E1.out, E2.out], HB.out⟩
    · have h2 : 32 < links := by omega
      clear hlk
      go_enter Try.func7, Try.ntmps7
      go_upto_region 1 with fail
      (try rw [hw1])
      clear hw1
      go_wp2_with fail
      refine bodyPost_ret (v := .tuple #[.string (strOfNums []), .int .i64 6]) (by simp [results, Try.results7, go_sem]; rfl) rfl ?_
      exact ⟨by rw [E1.out, E2.out], HB.out⟩
  have h1 : ¬ links < 1 := by omega
  have h2 : ¬ 32 < links := by omega
  have HLK := Lib.hid hlk
  clear hlk
  cases hck : chkB ns links en tp with
  | false =>
    obtain ⟨e1, e2⟩ := put_bad (tp := tp) (en := en) HLK.out (by rw [hck]; rfl : (chkB ns links en tp && tolB ns) = false)
    have E1 := Lib.hid e1
    have E2 := Lib.hid e2
    have hkw : chkW ns links en tp = 7 := by unfold chkW; rw [hck]; rfl
    rw [hkw] at HK
    clear e1 e2 hck hkw
    go_enter Try.func7, Try.ntmps7
    go_upto_region 1 with fail
    (try rw [hw1])
    clear hw1
    go_wp2_with (first
      | ((with_reducible refine wpList_loadG (op := ⟨some 16, _, _, _, _, _⟩) LP ?lgX ?lgW ?lgO ?lgE ?_); (case lgO => exact rfl); (case lgE => exact rfl); (case lgW => kernel_rfl))
      | (go_at_call 13; (with_reducible refine HK.out.mono ?_); rintro e w2 ⟨rfl, b2⟩; have HB2 := Lib.hid (HB.out.trans (b2.mono HB.out.size)); clear b2))
    refine bodyPost_ret (v := .tuple #[.string (strOfNums []), .int .i64 7]) (by simp [results, Try.results7, go_sem]; rfl) rfl ?_
    exact ⟨by rw [E1.out, E2.out], HB2.out⟩
  | true =>
    have hkw : chkW ns links en tp = 0 := by unfold chkW; rw [hck]; rfl
    rw [hkw] at HK
    have HCK := Lib.hid hck
    obtain ⟨hl1, hl2⟩ := chk_len hck
    clear hck hkw
    go_enter Try.func7, Try.ntmps7
    go_upto_region 1 with fail
    (try rw [hw1])
    clear hw1
    go_upto_region 5 with (first
      | ((with_reducible refine wpList_loadG (op := ⟨some 16, _, _, _, _, _⟩) LP ?lgX ?lgW ?lgO ?lgE ?_); (case lgO => exact rfl); (case lgE => exact rfl); (case lgW => kernel_rfl))
      | (go_at_call 13; (with_reducible refine HK.out.mono ?_); rintro e w2 ⟨rfl, b2⟩; have HB2 := Lib.hid b2; clear b2))
    clear HK LP
    have HG2 := Lib.hid (HG.out.below (HB2.out.mono HB.out.size))
    have K2 : Hid (Blk w2 w.heap.size 24 (pgL A n c en tp)) := HC.out.below HB2.out HC.out.lt
    have h2s : Hid (w.heap.size < w2.heap.size) := K2.out.lt
    go_upto_region 6 with fail
    obtain ⟨w3, hw3⟩ : ∃ x, w2.alloc (.cells #[.pointer none, .slice none 0 0] 50) = x := ⟨_, rfl⟩
    have hB3 : Below w2.heap.size w2 w3 := by rw [← hw3]; exact bel_boxI _ _
    have hS3 : BwS w3 w.heap.size w2.heap.size [] := BwS.new (by have := h2s.out; omega) hw3
    have hk3 : Blk w3 w2.heap.size 50 #[.pointer none, .slice none 0 0] := by rw [← hw3]; exact Blk.new _ _ _
    have HG3 := Lib.hid (HG2.out.below (hB3.mono (by have := h2s.out; omega)))
    have hA3 : Apt w3 w2.heap.size w.heap.size := ⟨by have := hB3.size; have := h2s.out; omega, by have := h2s.out; omega, fun v hv e => by
      rw [hk3.cell] at hv
      injection hv with hv
      subst hv
      cases e⟩
    have HN3 : Hid (NI w3 w.heap.size w2.heap.size mkL w.heap.size 24 (pgL A n c en tp) w3 [] ∨ True) := .inr trivial
    have HK3 : Hid (Blk w3 w.heap.size 24 (pgL A n c en tp)) := K2.out.below hB3 K2.out.lt
    have HA3 := Lib.hid hA3
    have HB3 : Hid (Below w.heap.size w w3) := HB.out.trans ((HB2.out.mono HB.out.size).trans (hB3.mono (by have := h2s.out; omega)))
    have HWR : Hid (Calls Try.prog 14 #[.pointer (some ⟨w2.heap.size, 0, none⟩), .string { data := #[71, 78, 71, 49] }] w3 fun e w' => e = .returned (.tuple #[.int .i64 4, .nilIface]) ∧ BwU w' w.heap.size w2.heap.size mkL ∧ BwF w.heap.size w2.heap.size w3 w') := bw_write w.heap.size w2.heap.size [] mkL w3 hS3 (by decide) (by have := hB3.size; have := h2s.out; omega)
    (try rw [hw3])
    clear hw3 hB3 hS3 hk3 hA3 HN3 K2 HC HG HG2 HB2
    obtain ⟨b, hb⟩ : ∃ b, w2.heap.size = b := ⟨_, rfl⟩
    rw [hb] at h2s HA3 HWR ⊢
    clear hb
    go_upto_region 7 with (go_at_call 14; (with_reducible refine HWR.out.mono ?_); rintro e w4 ⟨rfl, hu, hf⟩; have HU := Lib.hid hu; have HF4 := Lib.hid hf; clear hu hf)
    have HN4 : Hid (NI w3 w.heap.size b mkL w.heap.size 24 (pgL A n c en tp) w4 []) := ⟨by simpa [numsZ] using HU.out.s, HF4.out, (HF4.out.2 _ HA3.out).2.trans HK3.out, (HF4.out.2 _ HA3.out).1⟩
    clear HWR HU HF4 HA3 HK3
    obtain ⟨bA, oA, d0, hA, hbA, hd0, hr0, _⟩ := HG3.out.node (i := 0) (by have := HL.out; omega)
    have HNX : Hid (nAt ns 0 = d0) := nAt_of hd0
    have HR0 := Lib.hid hr0
    have HbA := Lib.hid hbA
    have hn1 : Hid (0 < n) := by show _ < _; have := HL.out; omega
    have HAe := Lib.hid hA
    have HX5 : Hid (∀ W', Below w.heap.size w3 W' → W'.cell? ⟨bA, oA + 0 * 7 + 5, none⟩ = some (.int .i64 d0.next)) := fun W' hb => (hb.cell (p := ⟨bA, oA + 0 * 7 + 5, none⟩) HbA.out).trans (HR0.out 5 _ rfl)
    have HX6 : Hid (∀ W', Below w.heap.size w3 W' → W'.cell? ⟨bA, oA + 0 * 7 + 6, none⟩ = some (.int .i64 d0.prev)) := fun W' hb => (hb.cell (p := ⟨bA, oA + 0 * 7 + 6, none⟩) HbA.out).trans (HR0.out 6 _ rfl)
    clear hd0 hr0 hbA HR0
    subst hA
    have HND := Lib.hid (HN4.out.below (below_drewN (Below.refl _ w4) 1))
    refine wp_region_held_drew (S := fun W' => Blk W' w.heap.size 24 (pgL (some ⟨bA, oA, none⟩) n c en tp) ∧ Below w.heap.size w3 W') (by kernel_rfl) ⟨HND.out.2.2.1, HND.out.2.1.1⟩ (fun hH => ?_)
    obtain ⟨WD, hWD⟩ : ∃ q, w4.drew = q := ⟨_, rfl⟩
    rw [show World.drewN _ 1 = WD from hWD] at HND
    rw [hWD] at hH ⊢
    clear hWD
    refine wpAnyH_take (i := 0) (v := .int .i64 links) rfl (by kernel_rfl) (by kernel_rfl) (by kernel_rfl) (fun _ _ _ h => h) (.inl ⟨by rfl, fun _ _ => by kernel_rfl⟩) hH ?_
    (try simp only [List.getElem_toArray, List.getElem_cons_zero, Act.put, List.setIfInBounds_toArray, List.set_cons_zero, List.set_cons_succ])
    refine wpAnyH_take (i := 1) (v := .pointer (some ⟨w.heap.size, 0, none⟩)) rfl (by kernel_rfl) (by kernel_rfl) (by kernel_rfl) (fun _ _ _ h => h) (.inl ⟨by rfl, fun _ _ => by kernel_rfl⟩) hH ?_
    (try simp only [List.getElem_toArray, List.getElem_cons_zero, List.getElem_cons_succ, Act.put, List.setIfInBounds_toArray, List.set_cons_zero, List.set_cons_succ])
    refine wpAnyH_take (i := 2) (v := .slice (some ⟨bA, oA, none⟩) n c) rfl (by kernel_rfl) (by kernel_rfl) (by kernel_rfl) (fun _ _ _ h => h) (yieldsIf_loadP (by rfl) _ rfl rfl (fun _ q => load_nodes (q.1.cell 0))) hH ?_
    (try simp only [List.getElem_toArray, List.getElem_cons_zero, List.getElem_cons_succ, Act.put, List.setIfInBounds_toArray, List.set_cons_zero, List.set_cons_succ])
    refine wpAnyH_take (i := 3) (v := .int .i64 n) rfl (by kernel_rfl) (by kernel_rfl) (by kernel_rfl) (fun _ _ _ h => h) (.inl ⟨by rfl, fun _ _ => by kernel_rfl⟩) hH ?_
    (try simp only [List.getElem_toArray, List.getElem_cons_zero, List.getElem_cons_succ, Act.put, List.setIfInBounds_toArray, List.set_cons_zero, List.set_cons_succ])
    refine wpAnyH_take (i := 4) (v := .pointer (some ⟨w.heap.size, 1, none⟩)) rfl (by kernel_rfl) (by kernel_rfl) (by kernel_rfl) (fun _ _ _ h => h) (.inl ⟨by rfl, fun _ _ => by kernel_rfl⟩) hH ?_
    (try simp only [List.getElem_toArray, List.getElem_cons_zero, List.getElem_cons_succ, Act.put, List.setIfInBounds_toArray, List.set_cons_zero, List.set_cons_succ])
    refine wpAnyH_take (i := 5) (v := .int .i64 en) rfl (by kernel_rfl) (by kernel_rfl) (by kernel_rfl) (fun _ _ _ h => h) (yieldsIf_loadP (by rfl) _ rfl rfl (fun _ q => load_i64 (q.1.cell 1))) hH ?_
    (try simp only [List.getElem_toArray, List.getElem_cons_zero, List.getElem_cons_succ, Act.put, List.setIfInBounds_toArray, List.set_cons_zero, List.set_cons_succ])
    refine wpAnyH_take (i := 6) (v := .pointer (some ⟨w.heap.size, 2, none⟩)) rfl (by kernel_rfl) (by kernel_rfl) (by kernel_rfl) (fun _ _ _ h => h) (.inl ⟨by rfl, fun _ _ => by kernel_rfl⟩) hH ?_
    (try simp only [List.getElem_toArray, List.getElem_cons_zero, List.getElem_cons_succ, Act.put, List.setIfInBounds_toArray, List.set_cons_zero, List.set_cons_succ])
    refine wpAnyH_take (i := 7) (v := .int .i64 tp) rfl (by kernel_rfl) (by kernel_rfl) (by kernel_rfl) (fun _ _ _ h => h) (yieldsIf_loadP (by rfl) _ rfl rfl (fun _ q => load_i64 (q.1.cell 2))) hH ?_
    (try simp only [List.getElem_toArray, List.getElem_cons_zero, List.getElem_cons_succ, Act.put, List.setIfInBounds_toArray, List.set_cons_zero, List.set_cons_succ])
    refine wpAnyH_take (i := 8) (v := .pointer (some ⟨w.heap.size, 0, none⟩)) rfl (by kernel_rfl) (by kernel_rfl) (by kernel_rfl) (fun _ _ _ h => h) (.inl ⟨by rfl, fun _ _ => by kernel_rfl⟩) hH ?_
    (try simp only [List.getElem_toArray, List.getElem_cons_zero, List.getElem_cons_succ, Act.put, List.setIfInBounds_toArray, List.set_cons_zero, List.set_cons_succ])
    refine wpAnyH_take (i := 9) (v := .slice (some ⟨bA, oA, none⟩) n c) rfl (by kernel_rfl) (by kernel_rfl) (by kernel_rfl) (fun _ _ _ h => h) (yieldsIf_loadP (by rfl) _ rfl rfl (fun _ q => load_nodes (q.1.cell 0))) hH ?_
    (try simp only [List.getElem_toArray, List.getElem_cons_zero, List.getElem_cons_succ, Act.put, List.setIfInBounds_toArray, List.set_cons_zero, List.set_cons_succ])
    refine wpAnyH_take (i := 10) (v := .pointer (some ⟨bA, oA + 0 * 7, none⟩)) rfl (by kernel_rfl) (by kernel_rfl) (by kernel_rfl) (fun _ _ _ h => h) (yieldsIf_index (k := 0) Try.underlying22 sz_node (by rfl) _ _ rfl rfl rfl hn1.out) hH ?_
    (try simp only [List.getElem_toArray, List.getElem_cons_zero, List.getElem_cons_succ, Act.put, List.setIfInBounds_toArray, List.set_cons_zero, List.set_cons_succ])
    refine wpAnyH_take (i := 11) (v := .pointer (some ⟨bA, oA + 0 * 7 + 5, none⟩)) rfl (by kernel_rfl) (by kernel_rfl) (by kernel_rfl) (fun _ _ _ h => h) (.inl ⟨by rfl, fun _ _ => by kernel_rfl⟩) hH ?_
    (try simp only [List.getElem_toArray, List.getElem_cons_zero, List.getElem_cons_succ, Act.put, List.setIfInBounds_toArray, List.set_cons_zero, List.set_cons_succ])
    refine wpAnyH_take (i := 12) (v := .int .i64 d0.next) rfl (by kernel_rfl) (by kernel_rfl) (by kernel_rfl) (fun _ _ _ h => h) (yieldsIf_loadP (by rfl) _ rfl rfl (fun _ q => load_i64 (HX5.out _ q.2))) hH ?_
    (try simp only [List.getElem_toArray, List.getElem_cons_zero, List.getElem_cons_succ, Act.put, List.setIfInBounds_toArray, List.set_cons_zero, List.set_cons_succ])
    refine wpAnyH_take (i := 13) (v := .pointer (some ⟨w.heap.size, 0, none⟩)) rfl (by kernel_rfl) (by kernel_rfl) (by kernel_rfl) (fun _ _ _ h => h) (.inl ⟨by rfl, fun _ _ => by kernel_rfl⟩) hH ?_
    (try simp only [List.getElem_toArray, List.getElem_cons_zero, List.getElem_cons_succ, Act.put, List.setIfInBounds_toArray, List.set_cons_zero, List.set_cons_succ])
    refine wpAnyH_take (i := 14) (v := .slice (some ⟨bA, oA, none⟩) n c) rfl (by kernel_rfl) (by kernel_rfl) (by kernel_rfl) (fun _ _ _ h => h) (yieldsIf_loadP (by rfl) _ rfl rfl (fun _ q => load_nodes (q.1.cell 0))) hH ?_
    (try simp only [List.getElem_toArray, List.getElem_cons_zero, List.getElem_cons_succ, Act.put, List.setIfInBounds_toArray, List.set_cons_zero, List.set_cons_succ])
    refine wpAnyH_take (i := 15) (v := .pointer (some ⟨bA, oA + 0 * 7, none⟩)) rfl (by kernel_rfl) (by kernel_rfl) (by kernel_rfl) (fun _ _ _ h => h) (yieldsIf_index (k := 0) Try.underlying22 sz_node (by rfl) _ _ rfl rfl rfl hn1.out) hH ?_
    (try simp only [List.getElem_toArray, List.getElem_cons_zero, List.getElem_cons_succ, Act.put, List.setIfInBounds_toArray, List.set_cons_zero, List.set_cons_succ])
    refine wpAnyH_take (i := 16) (v := .pointer (some ⟨bA, oA + 0 * 7 + 6, none⟩)) rfl (by kernel_rfl) (by kernel_rfl) (by kernel_rfl) (fun _ _ _ h => h) (.inl ⟨by rfl, fun _ _ => by kernel_rfl⟩) hH ?_
    (try simp only [List.getElem_toArray, List.getElem_cons_zero, List.getElem_cons_succ, Act.put, List.setIfInBounds_toArray, List.set_cons_zero, List.set_cons_succ])
    refine wpAnyH_take (i := 17) (v := .int .i64 d0.prev) rfl (by kernel_rfl) (by kernel_rfl) (by kernel_rfl) (fun _ _ _ h => h) (yieldsIf_loadP (by rfl) _ rfl rfl (fun _ q => load_i64 (HX6.out _ q.2))) hH ?_
    (try simp only [List.getElem_toArray, List.getElem_cons_zero, List.getElem_cons_succ, Act.put, List.setIfInBounds_toArray, List.set_cons_zero, List.set_cons_succ])
    have hb9 := bel_boxI WD (.cells #[.int .i64 links, .int .i64 n, .int .i64 en, .int .i64 tp, .int .i64 d0.next, .int .i64 d0.prev] 3)
    refine wpAnyH_mk 18 (.slice (some ⟨WD.heap.size, 0, none⟩) 6 6) (w' := WD.alloc (.cells #[.int .i64 links, .int .i64 n, .int .i64 en, .int .i64 tp, .int .i64 d0.next, .int .i64 d0.prev] 3)) (by kernel_rfl) (by rfl) (by kernel_rfl) (by kernel_rfl) ⟨(HND.out.below hb9).2.2.1, (HND.out.below hb9).2.1.1⟩ ?_
    (try simp only [List.getElem_toArray, List.getElem_cons_zero, List.getElem_cons_succ, Act.put, List.setIfInBounds_toArray, List.set_cons_zero, List.set_cons_succ])
    clear hb9
    refine wpAnyH_call 19 15 #[.pointer (some ⟨b, 0, none⟩), .slice (some ⟨WD.heap.size, 0, none⟩) 6 6] _ (by kernel_rfl) (by rfl) (by kernel_rfl) (by kernel_rfl) (ni_num (by decide) HND.out [links, n, en, tp, d0.next, d0.prev] _ 6 rfl rfl (by simp)) ?_
    rintro e w5 ⟨rfl, h5⟩
    have HN5 := Lib.hid h5
    clear h5
    refine ⟨_, rfl, ⟨HN5.out.2.2.1, HN5.out.2.1.1⟩, ?_⟩
    (try simp only [List.getElem_toArray, List.getElem_cons_zero, List.getElem_cons_succ, Act.put, List.setIfInBounds_toArray, List.set_cons_zero, List.set_cons_succ])
    refine wpAnyH_done (by kernel_rfl) ?_ _
    clear hH HND HX5 HX6
    replace HN5 : Hid (NI w3 w.heap.size b mkL w.heap.size 24 (pgL (some ⟨bA, oA, none⟩) n c en tp) w5 (hdZ ns links en tp ++ bdZ ns 0)) := by
      show NI _ _ _ _ _ _ _ _ _
      have h := HN5.out
      have e : (hdZ ns links en tp ++ bdZ ns 0) = [] ++ [links, (n : Int), en, tp, d0.next, d0.prev] := by unfold hdZ; rw [HNX.out, HL.out]; simp [bdZ]
      rw [e]
      exact h
    clear HNX HAe HN4
    have c0 : w5.cell? ⟨w.heap.size, 0, none⟩ = some (.slice (some ⟨bA, oA, none⟩) n c) := HN5.out.2.2.1.cell 0
    go_upto_region 9 with fail
    clear c0
    go_loopw [45] (fun s45 wr => ∃ j : Nat, j ≤ n ∧ s45 = .int .i64 j ∧ Hid (∀ i, i < j → toldB (nAt ns i) (thN ns i) = true) ∧ Hid (NI w3 w.heap.size b mkL w.heap.size 24 (pgL (some ⟨bA, oA, none⟩) n c en tp) wr (hdZ ns links en tp ++ bdZ ns j)) ∧ Hid ((bdZ ns j).length ≤ 5000 * j)) (fun s45 _ => n - (intOf s45).toNat)
    case atStart => exact ⟨0, Nat.zero_le _, rfl, Lib.hid (fun i h => absurd h (by omega)), HN5, by show _ ≤ _; simp [bdZ]⟩
    case round =>
      obtain ⟨j, hj, rfl, hq, hn5, hbl⟩ := hrel
      clear HN5
      by_cases hlt : j < n
      · obtain ⟨b', o', d, hA, hbb, hd, hr, hda⟩ := (HG3.out.below hn5.out.2.1.1).node hlt
        injection hA with hA
        injection hA with q1 q2
        subst q1 q2
        have LN := node_load hr
        have SN := node_put wr d
        have K1 := node_at wr d
        have bX := node_bel wr d
        obtain ⟨X1, hX1⟩ : ∃ y, (wr.alloc (.cells nd0.cells 42)).setCells wr.heap.size 0 d.cells.toList = y := ⟨_, rfl⟩
        rw [hX1] at SN K1 bX
        rw [nd0_lit] at SN
        have HNX1 := Lib.hid (hn5.out.below bX)
        have HK1 := Lib.hid K1
        have HND : Hid (nAt ns j = d) := nAt_of hd
        have HDA : Hid (d.At w3 w.heap.size) := HG3.out.2.2.2 d (List.mem_of_getElem? hd)
        have HTG := Lib.hid (HT.out d (List.mem_of_getElem? hd))
        have LPX := plane_load HNX1.out.2.2.1
        have HTH := Lib.hid (pl_there (some ⟨bA, oA, none⟩) n c ns en tp j X1 ((HG3.out.below HNX1.out.2.1.1).more (by have := HNX1.out.2.2.1.lt; omega)))
        rw [thB_nat] at HTH
        obtain ⟨th, hth⟩ : ∃ th, thN ns j = th := ⟨_, rfl⟩
        rw [hth] at HTH
        have HTHE := Lib.hid hth
        have HFN : Hid (toldB d th = false → tolB ns = false) := fun h => tol_no (i := j) (by have := HL.out; omega) (by rw [HND.out, HTHE.out]; exact h)
        have HFY : Hid (toldB d th = true → ∀ i, i < j + 1 → toldB (nAt ns i) (thN ns i) = true) := fun h i hi => by
          by_cases e : i = j
          · rw [e, HND.out, HTHE.out]; exact h
          · exact hq.out i (by omega)
        clear hd hr hda K1 bX hX1 hth hbb
        unfold pgL at LPX HTH
        go_upto_region 11 with (first | refine wpList_loadE LN _ rfl rfl rfl ?_ | refine wpList_storeE SN _ _ rfl rfl rfl rfl ?_)
        clear LN SN
        go_upto_region 12 with (first
          | refine wpList_loadE LPX _ rfl rfl rfl ?_
          | (go_at_call 16; (with_reducible refine HTH.out.mono ?_); rintro e X2 ⟨rfl, bx2⟩; have HNX2 := Lib.hid (HNX1.out.below bx2); have HK2 := Lib.hid (HK1.out.below bx2 HK1.out.lt); clear bx2))
        clear LPX HTH HNX1 HK1
        have LN2 := load_node HK2.out
        have HTO := Lib.hid (im_told d th X2)
        obtain ⟨tt, htt⟩ : ∃ tt, toldB d th = tt := ⟨_, rfl⟩
        rw [htt] at HTO HFN HFY
        have HTT := Lib.hid htt
        clear htt
        cases tt with
        | false =>
          obtain ⟨e1, e2⟩ := put_bad (ns := ns) (tp := tp) (en := en) HLK.out (by rw [HFN.out rfl, Bool.and_false])
          have E1 := Lib.hid e1
          have E2 := Lib.hid e2
          clear e1 e2
          go_wp2_with (first
            | refine wpList_loadE LN2 _ rfl rfl rfl ?_
            | (go_at_call 17; (with_reducible refine HTO.out.mono ?_); rintro e X3 ⟨rfl, bx3⟩; have HNX3 := Lib.hid (HNX2.out.below bx3); clear bx3))
          refine bodyPost_ret (v := .tuple #[.string (strOfNums []), .int .i64 7]) (by simp [results, Try.results7, go_sem]; rfl) rfl ?_
          exact ⟨by rw [E1.out, E2.out], HB3.out.trans HNX3.out.2.1.1⟩
        | true =>
          have HFY1 := Lib.hid (HFY.out rfl)
          go_upto_region 14 with (first
            | refine wpList_loadE LN2 _ rfl rfl rfl ?_
            | (go_at_call 17; (with_reducible refine HTO.out.mono ?_); rintro e X3 ⟨rfl, bx3⟩; have HNX3 := Lib.hid (HNX2.out.below bx3); have HK3 := Lib.hid (HK2.out.below bx3 HK2.out.lt); clear bx3))
          clear LN2 HTO HFN HFY HNX2 HK2
          have LN3 := load_node HK3.out
          cases th with
          | true =>
            have hbd := node_bd (chk_node HCK.out HTHE.out) (by rw [HND.out]; exact HDA.out.len.trans rfl) (by rw [HND.out]; exact fun x hx => (HDA.out.2.2.2.2.1 x hx).len)
            rw [HND.out] at hbd
            have HSL : Hid (slZ ns j = ndZ d) := by show _ = _; unfold slZ; rw [if_pos HTHE.out, HND.out]
            have hv4 : d.vec.n ≤ 4096 := by have := HTT.out; simpa [toldB] using this
            have HLN : Hid ((ndZ d).length ≤ 5000) := ndZ_len HDA.out.1.len hv4 (by rw [HDA.out.len]; omega) (fun x hx => by have := hbd.2 x hx; have := (HDA.out.2.2.2.2.1 x hx).len; simp [lsZ]; omega)
            have HWN := Lib.hid (HNX3.out.wnode (by decide) (by have := hbl.out; have := HL.out; simp only [hdZ, List.length_append, List.length_cons, List.length_nil]; omega) d HDA.out HTG.out hv4 (by omega) (fun x hx => by have := hbd.2 x hx; omega))
            clear hbd hv4
            go_wp2_with (first
              | refine wpList_loadE LN3 _ rfl rfl rfl ?_
              | (go_at_call 18; (with_reducible refine HWN.out.mono ?_); rintro e X4 ⟨rfl, hn4⟩; have HN4 := Lib.hid hn4; clear hn4))
            clear LN3 HWN
            go_roundw
            case rel => exact ⟨_, _, _, _, _, _, _, _, _, _, _, _, _, _, _, _, _, _, _, _, _, _, _, _, _, _, _, _, ⟨j + 1, by omega, by go_num, HFY1, by show NI _ _ _ _ _ _ _ _ _; rw [bdZ_succ, HSL.out, ← List.append_assoc]; exact HN4.out, by show _ ≤ _; rw [bdZ_succ, HSL.out, List.length_append]; have := HLN.out; have := hbl.out; omega⟩, rfl⟩
            case measure => simp [intOf]; omega
          | false =>
            clear LN3
            by_cases h0 : j = 0
            · subst h0
              have HSL : Hid (slZ ns 0 = []) := by show _ = _; unfold slZ; rw [if_neg (by rw [HTHE.out]; decide), if_neg (by omega)]
              go_wp2_with fail
              go_roundw
              case rel => exact ⟨_, _, _, _, _, _, _, _, _, _, _, _, _, _, _, _, _, _, _, _, _, _, _, _, _, _, _, _, ⟨1, by omega, by go_num, HFY1, by show NI _ _ _ _ _ _ _ _ _; rw [bdZ_succ, HSL.out, List.append_nil]; exact HNX3.out, by show _ ≤ _; rw [bdZ_succ, HSL.out, List.append_nil]; have := hbl.out; omega⟩, rfl⟩
              case measure => simp [intOf]; omega
            · have HSL : Hid (slZ ns j = [0]) := by show _ = _; unfold slZ; rw [if_neg (by rw [HTHE.out]; decide), if_pos (by omega)]
              have h0' : 0 < j := by omega
              clear h0
              go_wp2_with (go_at_call 15; (with_reducible refine (ni_one (by decide) HNX3.out 0 ?hz).mono ?_); (case hz => (have := hbl.out; simp only [hdZ, List.length_append, List.length_cons, List.length_nil]; omega)); rintro e X4 ⟨rfl, hn4⟩; have HN4 := Lib.hid hn4; clear hn4)
              go_roundw
              case rel => exact ⟨_, _, _, _, _, _, _, _, _, _, _, _, _, _, _, _, _, _, _, _, _, _, _, _, _, _, _, _, ⟨j + 1, by omega, by go_num, HFY1, by show NI _ _ _ _ _ _ _ _ _; rw [bdZ_succ, HSL.out, ← List.append_assoc]; exact HN4.out, by show _ ≤ _; rw [bdZ_succ, HSL.out, List.length_append]; have := hbl.out; simp only [List.length_cons, List.length_nil]; omega⟩, rfl⟩
              case measure => simp [intOf]; omega
      · obtain rfl : n = j := by omega
        obtain ⟨e1, e2⟩ := put_ok (ns := ns) (tp := tp) (en := en) HLK.out (by rw [HCK.out, tol_yes (fun i hi => hq.out i (by have := HL.out; omega))]; rfl)
        have E1 := Lib.hid e1
        have E2 := Lib.hid e2
        have hpl : mkL ++ numsZ (hdZ ns links en tp ++ bdZ ns n) = putL ns links en tp := by unfold putL imZ; rw [HL.out]
        have hll : (putL ns links en tp).length ≤ 1000000000000 := by
          have h1 := numsZ_len (hdZ ns links en tp ++ bdZ ns n)
          have h2 := hbl.out
          rw [← hpl, List.length_append]
          simp only [hdZ, mkL, List.length_append, List.length_cons, List.length_nil] at h1 ⊢
          omega
        have hlp : 0 < (putL ns links en tp).length := by rw [← hpl]; simp [mkL]
        have hby : Bytes (putL ns links en tp) := putL_bytes ns links en tp
        have hn5' := hn5.out
        unfold NI at hn5'
        rw [hpl] at hn5'
        obtain ⟨L, hL⟩ : ∃ L, putL ns links en tp = L := ⟨_, rfl⟩
        rw [hL] at hn5' hll hlp hby E2
        have HS5 := Lib.hid hn5'.1
        have HF5 := Lib.hid hn5'.2.1
        have HLL := Lib.hid hll
        have HLP := Lib.hid hlp
        have HSU := Lib.hid (im_sum L hby (by omega))
        have hap := str_append
        have hs1 := strOfNums_size L
        have hs2 := strOfNums_size (sumB L)
        have hs3 : (sumB L).length = 4 := rfl
        clear e1 e2 hpl hL hn5' hby hn5 hbl hq hlt
        go_wp2_with (first
          | (go_at_call 19; (with_reducible refine (bw_string _ b L _ HS5.out HLP.out ?hz).mono ?_); (case hz => (have := HLL.out; omega)); rintro e X5 ⟨rfl, hs5, hf5⟩; have HS6 := Lib.hid hs5; have HF6 := Lib.hid (HF5.out.trans hf5); clear HS5 HF5; have HS5 := HS6; have HF5 := HF6; clear HS6 HF6 hs5 hf5)
          | (go_at_call 20; (with_reducible refine (HSU.out _).mono ?_); rintro e X6 ⟨rfl, hb6⟩; have HB6 := Lib.hid (HB3.out.trans (HF5.out.1.trans (hb6.mono (by have := HS5.out.lt; have := HS5.out.base; omega)))); clear hb6))
        refine bodyPost_ret (v := .tuple #[.string (strOfNums (L ++ sumB L)), .int .i64 0]) (by simp [results, Try.results7, go_sem]) rfl ?_
        exact ⟨by rw [E1.out, E2.out], HB6.out⟩
set_option maxRecDepth 100000 in
set_option maxHeartbeats 4000000 in
theorem rf_put (A : Option Addr) (n c : Nat) (ns : List ND) (en tp links : Int) (w : World) (hg : PgAt w w.heap.size A n c ns) (ht : ∀ d ∈ ns, (Lit.int .u64 d.tags).wf = true) :
    Calls Try.prog 8 #[.agg (pgL A n c en tp), .int .i64 links] w (RetPI (putS ns links en tp) (putE ns links en tp) w) := by
  obtain ⟨w1, hw1⟩ : ∃ x, w.alloc (.cells (pgL A n c en tp) 24) = x := ⟨_, rfl⟩
  obtain ⟨C1, b1⟩ := box_plane hw1
  have hn := hg.2.1
  have HL := Lib.hid hg.len
  have HG := Lib.hid (hg.below b1)
  have HT := Lib.hid ht
  have HC := Lib.hid C1
  have HB := Lib.hid b1
  have LP := plane_load C1
  have HK := Lib.hid (rf_fits A n c ns en tp links w1 (hg.on b1 b1.size))
  clear hg C1 b1 ht
  unfold pgL at hw1 LP HK ⊢
  by_cases hlk : links < 1 ∨ 32 < links
  · obtain ⟨e1, e2⟩ := put_far (ns := ns) (en := en) (tp := tp) hlk
    have E1 := Lib.hid e1
    have E2 := Lib.hid e2
    clear e1 e2 LP
    by_cases h1 : links < 1
    · clear hlk
      go_enter Try.func8, Try.ntmps8
      go_upto_region 1 with fail
      (try rw [hw1])
      clear hw1
      go_wp2_with fail
      refine bodyPost_ret (v := .tuple #[.string (strOfNums []), .int .i64 6]) (by simp [results, Try.results8, go_sem]; rfl) rfl ?_
      exact ⟨by rw [E1.out, E2.out], HB.out⟩
    · have h2 : 32 < links := by omega
      clear hlk
      go_enter Try.func8, Try.ntmps8
      go_upto_region 1 with fail
      (try rw [hw1])
      clear hw1
      go_wp2_with fail
      refine bodyPost_ret (v := .tuple #[.string (strOfNums []), .int .i64 6]) (by simp [results, Try.results8, go_sem]; rfl) rfl ?_
      exact ⟨by rw [E1.out, E2.out], HB.out⟩
  have h1 : ¬ links < 1 := by omega
  have h2 : ¬ 32 < links := by omega
  have HLK := Lib.hid hlk
  clear hlk
  cases hck : (chkB ns links en tp && tolB ns) with
  | false =>
    obtain ⟨e1, e2⟩ := put_bad (tp := tp) (en := en) HLK.out hck
    have E1 := Lib.hid e1
    have E2 := Lib.hid e2
    rw [hck] at HK
    clear e1 e2 hck
    go_enter Try.func8, Try.ntmps8
    go_upto_region 1 with fail
    (try rw [hw1])
    clear hw1
    go_wp2_with (first
      | refine wpList_loadE LP _ rfl rfl rfl ?_
      | (go_at_call 21; (with_reducible refine HK.out.mono ?_); rintro e w2 ⟨rfl, b2⟩; have HB2 := Lib.hid (HB.out.trans (b2.mono HB.out.size)); clear b2))
    refine bodyPost_ret (v := .tuple #[.string (strOfNums []), .int .i64 7]) (by simp [results, Try.results8, go_sem]; rfl) rfl ?_
    exact ⟨by rw [E1.out, E2.out], HB2.out⟩
  | true =>
    obtain ⟨e1, e2⟩ := put_ok (tp := tp) (en := en) HLK.out hck
    have E1 := Lib.hid e1
    have E2 := Lib.hid e2
    rw [hck] at HK
    rw [Bool.and_eq_true] at hck
    have HCK := Lib.hid hck.1
    have HTO := Lib.hid hck.2
    obtain ⟨hl1, hl2⟩ := chk_len hck.1
    clear e1 e2 hck
    go_enter Try.func8, Try.ntmps8
    go_upto_region 1 with fail
    (try rw [hw1])
    clear hw1
    go_upto_region 5 with (first
      | refine wpList_loadE LP _ rfl rfl rfl ?_
      | (go_at_call 21; (with_reducible refine HK.out.mono ?_); rintro e w2 ⟨rfl, b2⟩; have HB2 := Lib.hid b2; clear b2))
    clear HK LP
    have HG2 := Lib.hid (HG.out.below (HB2.out.mono HB.out.size))
    have K2 : Hid (Blk w2 w.heap.size 24 (pgL A n c en tp)) := HC.out.below HB2.out HC.out.lt
    have HBW := Lib.hid (HB.out.trans (HB2.out.mono HB.out.size))
    obtain ⟨bA, oA, d0, hA, hbA, hd0, hr0, _⟩ := HG2.out.node (i := 0) (by have := HL.out; omega)
    have HNX : Hid (nAt ns 0 = d0) := nAt_of hd0
    have HR0 := Lib.hid hr0
    have HbA : Hid (bA < w2.heap.size) := by show _ < _; have := HBW.out.size; omega
    have hn1 : Hid (0 < n) := by show _ < _; have := HL.out; omega
    have HX5 : Hid (∀ W', Below w2.heap.size w2 W' → W'.cell? ⟨bA, oA + 0 * 7 + 5, none⟩ = some (.int .i64 d0.next)) := fun W' hb => (hb.cell (p := ⟨bA, oA + 0 * 7 + 5, none⟩) HbA.out).trans (HR0.out 5 _ rfl)
    have HX6 : Hid (∀ W', Below w2.heap.size w2 W' → W'.cell? ⟨bA, oA + 0 * 7 + 6, none⟩ = some (.int .i64 d0.prev)) := fun W' hb => (hb.cell (p := ⟨bA, oA + 0 * 7 + 6, none⟩) HbA.out).trans (HR0.out 6 _ rfl)
    clear hd0 hr0 hbA HR0
    subst hA
    obtain ⟨a1, ha1⟩ : ∃ m, numsZ [links] = m := ⟨_, rfl⟩
    obtain ⟨a2, ha2⟩ : ∃ m, numsZ [(n : Int)] = m := ⟨_, rfl⟩
    obtain ⟨a3, ha3⟩ : ∃ m, numsZ [en] = m := ⟨_, rfl⟩
    obtain ⟨a4, ha4⟩ : ∃ m, numsZ [tp] = m := ⟨_, rfl⟩
    obtain ⟨a5, ha5⟩ : ∃ m, numsZ [d0.next] = m := ⟨_, rfl⟩
    obtain ⟨a6, ha6⟩ : ∃ m, numsZ [d0.prev] = m := ⟨_, rfl⟩
    have l1 : a1.length ≤ 10 := by rw [← ha1]; exact num_1 _
    have l2 : a2.length ≤ 10 := by rw [← ha2]; exact num_1 _
    have l3 : a3.length ≤ 10 := by rw [← ha3]; exact num_1 _
    have l4 : a4.length ≤ 10 := by rw [← ha4]; exact num_1 _
    have l5 : a5.length ≤ 10 := by rw [← ha5]; exact num_1 _
    have l6 : a6.length ≤ 10 := by rw [← ha6]; exact num_1 _
    have HA1 := Lib.hid ha1
    have HA2 := Lib.hid ha2
    have HA3 := Lib.hid ha3
    have HA4 := Lib.hid ha4
    have HA5 := Lib.hid ha5
    have HA6 := Lib.hid ha6
    have HM : Hid (mkL ++ a1 ++ a2 ++ a3 ++ a4 ++ a5 ++ a6 = mkL ++ numsZ (hdZ ns links en tp ++ bdZ ns 0)) := by
      show _ = _
      unfold hdZ
      rw [HNX.out, HL.out, ← ha1, ← ha2, ← ha3, ← ha4, ← ha5, ← ha6]
      simp [numsZ, bdZ]
    have lM : Hid (mkL.length = 4) := rfl
    have hM4 := lM.out
    clear ha1 ha2 ha3 ha4 ha5 ha6
    refine wp_region_held_drew (S := fun W' => Below w2.heap.size w2 W') (by kernel_rfl) (below_drewN (Below.refl _ w2) 1) (fun hH => ?_)
    refine wpAnyH_take (i := 0) (v := .int .i64 links) rfl (by kernel_rfl) (by kernel_rfl) (by kernel_rfl) (fun _ _ _ h => h) (.inl ⟨by rfl, fun _ _ => by kernel_rfl⟩) hH ?_
    (try simp only [List.getElem_toArray, List.getElem_cons_zero, Act.put, List.setIfInBounds_toArray, List.set_cons_zero, List.set_cons_succ])
    refine wpAnyH_take (i := 3) (v := .pointer (some ⟨w.heap.size, 0, none⟩)) rfl (by kernel_rfl) (by kernel_rfl) (by kernel_rfl) (fun _ _ _ h => h) (.inl ⟨by rfl, fun _ _ => by kernel_rfl⟩) hH ?_
    (try simp only [List.getElem_toArray, List.getElem_cons_zero, List.getElem_cons_succ, Act.put, List.setIfInBounds_toArray, List.set_cons_zero, List.set_cons_succ])
    refine wpAnyH_take (i := 4) (v := .slice (some ⟨bA, oA, none⟩) n c) rfl (by kernel_rfl) (by kernel_rfl) (by kernel_rfl) (fun _ _ _ h => h) (yieldsIf_loadP (by rfl) _ rfl rfl (fun _ q => load_nodes ((K2.out.below q K2.out.lt).cell 0))) hH ?_
    (try simp only [List.getElem_toArray, List.getElem_cons_zero, List.getElem_cons_succ, Act.put, List.setIfInBounds_toArray, List.set_cons_zero, List.set_cons_succ])
    refine wpAnyH_take (i := 5) (v := .int .i64 (n : Int)) rfl (by kernel_rfl) (by kernel_rfl) (by kernel_rfl) (fun _ _ _ h => h) (.inl ⟨by rfl, fun _ _ => by kernel_rfl⟩) hH ?_
    (try simp only [List.getElem_toArray, List.getElem_cons_zero, List.getElem_cons_succ, Act.put, List.setIfInBounds_toArray, List.set_cons_zero, List.set_cons_succ])
    refine wpAnyH_take (i := 8) (v := .pointer (some ⟨w.heap.size, 1, none⟩)) rfl (by kernel_rfl) (by kernel_rfl) (by kernel_rfl) (fun _ _ _ h => h) (.inl ⟨by rfl, fun _ _ => by kernel_rfl⟩) hH ?_
    (try simp only [List.getElem_toArray, List.getElem_cons_zero, List.getElem_cons_succ, Act.put, List.setIfInBounds_toArray, List.set_cons_zero, List.set_cons_succ])
    refine wpAnyH_take (i := 9) (v := .int .i64 en) rfl (by kernel_rfl) (by kernel_rfl) (by kernel_rfl) (fun _ _ _ h => h) (yieldsIf_loadP (by rfl) _ rfl rfl (fun _ q => load_i64 ((K2.out.below q K2.out.lt).cell 1))) hH ?_
    (try simp only [List.getElem_toArray, List.getElem_cons_zero, List.getElem_cons_succ, Act.put, List.setIfInBounds_toArray, List.set_cons_zero, List.set_cons_succ])
    refine wpAnyH_take (i := 12) (v := .pointer (some ⟨w.heap.size, 2, none⟩)) rfl (by kernel_rfl) (by kernel_rfl) (by kernel_rfl) (fun _ _ _ h => h) (.inl ⟨by rfl, fun _ _ => by kernel_rfl⟩) hH ?_
    (try simp only [List.getElem_toArray, List.getElem_cons_zero, List.getElem_cons_succ, Act.put, List.setIfInBounds_toArray, List.set_cons_zero, List.set_cons_succ])
    refine wpAnyH_take (i := 13) (v := .int .i64 tp) rfl (by kernel_rfl) (by kernel_rfl) (by kernel_rfl) (fun _ _ _ h => h) (yieldsIf_loadP (by rfl) _ rfl rfl (fun _ q => load_i64 ((K2.out.below q K2.out.lt).cell 2))) hH ?_
    (try simp only [List.getElem_toArray, List.getElem_cons_zero, List.getElem_cons_succ, Act.put, List.setIfInBounds_toArray, List.set_cons_zero, List.set_cons_succ])
    refine wpAnyH_take (i := 16) (v := .pointer (some ⟨w.heap.size, 0, none⟩)) rfl (by kernel_rfl) (by kernel_rfl) (by kernel_rfl) (fun _ _ _ h => h) (.inl ⟨by rfl, fun _ _ => by kernel_rfl⟩) hH ?_
    (try simp only [List.getElem_toArray, List.getElem_cons_zero, List.getElem_cons_succ, Act.put, List.setIfInBounds_toArray, List.set_cons_zero, List.set_cons_succ])
    refine wpAnyH_take (i := 17) (v := .slice (some ⟨bA, oA, none⟩) n c) rfl (by kernel_rfl) (by kernel_rfl) (by kernel_rfl) (fun _ _ _ h => h) (yieldsIf_loadP (by rfl) _ rfl rfl (fun _ q => load_nodes ((K2.out.below q K2.out.lt).cell 0))) hH ?_
    (try simp only [List.getElem_toArray, List.getElem_cons_zero, List.getElem_cons_succ, Act.put, List.setIfInBounds_toArray, List.set_cons_zero, List.set_cons_succ])
    refine wpAnyH_take (i := 18) (v := .pointer (some ⟨bA, oA + 0 * 7, none⟩)) rfl (by kernel_rfl) (by kernel_rfl) (by kernel_rfl) (fun _ _ _ h => h) (yieldsIf_index (k := 0) Try.underlying22 sz_node (by rfl) _ _ rfl rfl rfl hn1.out) hH ?_
    (try simp only [List.getElem_toArray, List.getElem_cons_zero, List.getElem_cons_succ, Act.put, List.setIfInBounds_toArray, List.set_cons_zero, List.set_cons_succ])
    refine wpAnyH_take (i := 19) (v := .pointer (some ⟨bA, oA + 0 * 7 + 5, none⟩)) rfl (by kernel_rfl) (by kernel_rfl) (by kernel_rfl) (fun _ _ _ h => h) (.inl ⟨by rfl, fun _ _ => by kernel_rfl⟩) hH ?_
    (try simp only [List.getElem_toArray, List.getElem_cons_zero, List.getElem_cons_succ, Act.put, List.setIfInBounds_toArray, List.set_cons_zero, List.set_cons_succ])
    refine wpAnyH_take (i := 20) (v := .int .i64 d0.next) rfl (by kernel_rfl) (by kernel_rfl) (by kernel_rfl) (fun _ _ _ h => h) (yieldsIf_loadP (by rfl) _ rfl rfl (fun _ q => load_i64 (HX5.out _ q))) hH ?_
    (try simp only [List.getElem_toArray, List.getElem_cons_zero, List.getElem_cons_succ, Act.put, List.setIfInBounds_toArray, List.set_cons_zero, List.set_cons_succ])
    refine wpAnyH_take (i := 23) (v := .pointer (some ⟨w.heap.size, 0, none⟩)) rfl (by kernel_rfl) (by kernel_rfl) (by kernel_rfl) (fun _ _ _ h => h) (.inl ⟨by rfl, fun _ _ => by kernel_rfl⟩) hH ?_
    (try simp only [List.getElem_toArray, List.getElem_cons_zero, List.getElem_cons_succ, Act.put, List.setIfInBounds_toArray, List.set_cons_zero, List.set_cons_succ])
    refine wpAnyH_take (i := 24) (v := .slice (some ⟨bA, oA, none⟩) n c) rfl (by kernel_rfl) (by kernel_rfl) (by kernel_rfl) (fun _ _ _ h => h) (yieldsIf_loadP (by rfl) _ rfl rfl (fun _ q => load_nodes ((K2.out.below q K2.out.lt).cell 0))) hH ?_
    (try simp only [List.getElem_toArray, List.getElem_cons_zero, List.getElem_cons_succ, Act.put, List.setIfInBounds_toArray, List.set_cons_zero, List.set_cons_succ])
    refine wpAnyH_take (i := 25) (v := .pointer (some ⟨bA, oA + 0 * 7, none⟩)) rfl (by kernel_rfl) (by kernel_rfl) (by kernel_rfl) (fun _ _ _ h => h) (yieldsIf_index (k := 0) Try.underlying22 sz_node (by rfl) _ _ rfl rfl rfl hn1.out) hH ?_
    (try simp only [List.getElem_toArray, List.getElem_cons_zero, List.getElem_cons_succ, Act.put, List.setIfInBounds_toArray, List.set_cons_zero, List.set_cons_succ])
    refine wpAnyH_take (i := 26) (v := .pointer (some ⟨bA, oA + 0 * 7 + 6, none⟩)) rfl (by kernel_rfl) (by kernel_rfl) (by kernel_rfl) (fun _ _ _ h => h) (.inl ⟨by rfl, fun _ _ => by kernel_rfl⟩) hH ?_
    (try simp only [List.getElem_toArray, List.getElem_cons_zero, List.getElem_cons_succ, Act.put, List.setIfInBounds_toArray, List.set_cons_zero, List.set_cons_succ])
    refine wpAnyH_take (i := 27) (v := .int .i64 d0.prev) rfl (by kernel_rfl) (by kernel_rfl) (by kernel_rfl) (fun _ _ _ h => h) (yieldsIf_loadP (by rfl) _ rfl rfl (fun _ q => load_i64 (HX6.out _ q))) hH ?_
    (try simp only [List.getElem_toArray, List.getElem_cons_zero, List.getElem_cons_succ, Act.put, List.setIfInBounds_toArray, List.set_cons_zero, List.set_cons_succ])
    refine wpAnyH_call 1 22 #[.int .i64 links] _ (by kernel_rfl) (by rfl) (by kernel_rfl) (by kernel_rfl) (rf_numM HA1.out _) ?_
    rintro e Y1 ⟨rfl, hb⟩
    have hHY1 := hH.trans (hb.mono hH.size)
    clear hb
    refine ⟨_, rfl, hHY1, ?_⟩
    (try simp only [List.getElem_toArray, List.getElem_cons_zero, List.getElem_cons_succ, Act.put, List.setIfInBounds_toArray, List.set_cons_zero, List.set_cons_succ])
    refine wpAnyH_take (i := 2) (v := .string (strOfNums (mkL ++ a1))) rfl (by kernel_rfl) (by kernel_rfl) (by kernel_rfl) (fun _ _ _ h => h) (yieldsIf_cat (s := strOfNums mkL) (t := strOfNums a1) (str_append mkL a1) (by rw [strOfNums_size, strOfNums_size]; omega) (by rfl) _ _ rfl rfl rfl) hHY1 ?_
    (try simp only [List.getElem_toArray, List.getElem_cons_zero, List.getElem_cons_succ, Act.put, List.setIfInBounds_toArray, List.set_cons_zero, List.set_cons_succ])
    refine wpAnyH_call 6 22 #[.int .i64 (n : Int)] _ (by kernel_rfl) (by rfl) (by kernel_rfl) (by kernel_rfl) (rf_numM HA2.out _) ?_
    rintro e Y2 ⟨rfl, hb⟩
    have hHY2 := hHY1.trans (hb.mono hHY1.size)
    clear hb
    refine ⟨_, rfl, hHY2, ?_⟩
    (try simp only [List.getElem_toArray, List.getElem_cons_zero, List.getElem_cons_succ, Act.put, List.setIfInBounds_toArray, List.set_cons_zero, List.set_cons_succ])
    refine wpAnyH_take (i := 7) (v := .string (strOfNums (mkL ++ a1 ++ a2))) rfl (by kernel_rfl) (by kernel_rfl) (by kernel_rfl) (fun _ _ _ h => h) (yieldsIf_catZ (by (try simp only [List.length_append]); omega) (by rfl) _ _ rfl rfl rfl) hHY2 ?_
    (try simp only [List.getElem_toArray, List.getElem_cons_zero, List.getElem_cons_succ, Act.put, List.setIfInBounds_toArray, List.set_cons_zero, List.set_cons_succ])
    refine wpAnyH_call 10 22 #[.int .i64 en] _ (by kernel_rfl) (by rfl) (by kernel_rfl) (by kernel_rfl) (rf_numM HA3.out _) ?_
    rintro e Y3 ⟨rfl, hb⟩
    have hHY3 := hHY2.trans (hb.mono hHY2.size)
    clear hb
    refine ⟨_, rfl, hHY3, ?_⟩
    (try simp only [List.getElem_toArray, List.getElem_cons_zero, List.getElem_cons_succ, Act.put, List.setIfInBounds_toArray, List.set_cons_zero, List.set_cons_succ])
    refine wpAnyH_take (i := 11) (v := .string (strOfNums (mkL ++ a1 ++ a2 ++ a3))) rfl (by kernel_rfl) (by kernel_rfl) (by kernel_rfl) (fun _ _ _ h => h) (yieldsIf_catZ (by (try simp only [List.length_append]); omega) (by rfl) _ _ rfl rfl rfl) hHY3 ?_
    (try simp only [List.getElem_toArray, List.getElem_cons_zero, List.getElem_cons_succ, Act.put, List.setIfInBounds_toArray, List.set_cons_zero, List.set_cons_succ])
    refine wpAnyH_call 14 22 #[.int .i64 tp] _ (by kernel_rfl) (by rfl) (by kernel_rfl) (by kernel_rfl) (rf_numM HA4.out _) ?_
    rintro e Y4 ⟨rfl, hb⟩
    have hHY4 := hHY3.trans (hb.mono hHY3.size)
    clear hb
    refine ⟨_, rfl, hHY4, ?_⟩
    (try simp only [List.getElem_toArray, List.getElem_cons_zero, List.getElem_cons_succ, Act.put, List.setIfInBounds_toArray, List.set_cons_zero, List.set_cons_succ])
    refine wpAnyH_take (i := 15) (v := .string (strOfNums (mkL ++ a1 ++ a2 ++ a3 ++ a4))) rfl (by kernel_rfl) (by kernel_rfl) (by kernel_rfl) (fun _ _ _ h => h) (yieldsIf_catZ (by (try simp only [List.length_append]); omega) (by rfl) _ _ rfl rfl rfl) hHY4 ?_
    (try simp only [List.getElem_toArray, List.getElem_cons_zero, List.getElem_cons_succ, Act.put, List.setIfInBounds_toArray, List.set_cons_zero, List.set_cons_succ])
    refine wpAnyH_call 21 22 #[.int .i64 d0.next] _ (by kernel_rfl) (by rfl) (by kernel_rfl) (by kernel_rfl) (rf_numM HA5.out _) ?_
    rintro e Y5 ⟨rfl, hb⟩
    have hHY5 := hHY4.trans (hb.mono hHY4.size)
    clear hb
    refine ⟨_, rfl, hHY5, ?_⟩
    (try simp only [List.getElem_toArray, List.getElem_cons_zero, List.getElem_cons_succ, Act.put, List.setIfInBounds_toArray, List.set_cons_zero, List.set_cons_succ])
    refine wpAnyH_take (i := 22) (v := .string (strOfNums (mkL ++ a1 ++ a2 ++ a3 ++ a4 ++ a5))) rfl (by kernel_rfl) (by kernel_rfl) (by kernel_rfl) (fun _ _ _ h => h) (yieldsIf_catZ (by (try simp only [List.length_append]); omega) (by rfl) _ _ rfl rfl rfl) hHY5 ?_
    (try simp only [List.getElem_toArray, List.getElem_cons_zero, List.getElem_cons_succ, Act.put, List.setIfInBounds_toArray, List.set_cons_zero, List.set_cons_succ])
    refine wpAnyH_call 28 22 #[.int .i64 d0.prev] _ (by kernel_rfl) (by rfl) (by kernel_rfl) (by kernel_rfl) (rf_numM HA6.out _) ?_
    rintro e wE ⟨rfl, hb⟩
    have hHwE := hHY5.trans (hb.mono hHY5.size)
    clear hb
    refine ⟨_, rfl, hHwE, ?_⟩
    (try simp only [List.getElem_toArray, List.getElem_cons_zero, List.getElem_cons_succ, Act.put, List.setIfInBounds_toArray, List.set_cons_zero, List.set_cons_succ])
    refine wpAnyH_take (i := 29) (v := .string (strOfNums (mkL ++ a1 ++ a2 ++ a3 ++ a4 ++ a5 ++ a6))) rfl (by kernel_rfl) (by kernel_rfl) (by kernel_rfl) (fun _ _ _ h => h) (yieldsIf_catZ (by (try simp only [List.length_append]); omega) (by rfl) _ _ rfl rfl rfl) hHwE ?_
    (try simp only [List.getElem_toArray, List.getElem_cons_zero, List.getElem_cons_succ, Act.put, List.setIfInBounds_toArray, List.set_cons_zero, List.set_cons_succ])
    refine wpAnyH_take (i := 30) (v := .string (strOfNums (mkL ++ a1 ++ a2 ++ a3 ++ a4 ++ a5 ++ a6))) rfl (by kernel_rfl) (by kernel_rfl) (by kernel_rfl) (fun _ _ _ h => h) (.inl ⟨by rfl, fun _ _ => by kernel_rfl⟩) hHwE ?_
    (try simp only [List.getElem_toArray, List.getElem_cons_zero, List.getElem_cons_succ, Act.put, List.setIfInBounds_toArray, List.set_cons_zero, List.set_cons_succ])
    refine wpAnyH_done (by kernel_rfl) ?_ _
    have HBE := Lib.hid hHwE
    clear hH hHY1 hHY2 hHY3 hHY4 hHY5 hHwE
    clear HA1 HA2 HA3 HA4 HA5 HA6 HX5 HX6
    have hls : (mkL ++ a1 ++ a2 ++ a3 ++ a4 ++ a5 ++ a6).length ≤ 64 := by simp only [List.length_append]; omega
    obtain ⟨S0, hS0⟩ : ∃ S, mkL ++ a1 ++ a2 ++ a3 ++ a4 ++ a5 ++ a6 = S := ⟨_, rfl⟩
    rw [hS0] at HM hls
    try rw [hS0]
    clear hS0 hM4
    (try simp only [List.append_assoc, Nat.zero_mul, Nat.add_zero])
    have KE : Hid (Blk wE w.heap.size 24 (pgL (some ⟨bA, oA, none⟩) n c en tp)) := K2.out.below HBE.out K2.out.lt
    have HGE := Lib.hid (HG2.out.below (HBE.out.mono HBW.out.size))
    have HBX := Lib.hid (HBW.out.trans (HBE.out.mono HBW.out.size))
    have c0 : wE.cell? ⟨w.heap.size, 0, none⟩ = some (.slice (some ⟨bA, oA, none⟩) n c) := KE.out.cell 0
    have hap := str_append
    have hss := strOfNums_size
    go_upto_region 7 with fail
    clear c0 HBE HG2 K2 HBW HB2 HC HG HB
    go_loopw [6, 52] (fun s6 s52 wr => ∃ (j : Nat) (S : List Int), j ≤ n ∧ s52 = .int .i64 j ∧ s6 = .string (strOfNums S) ∧ Hid (S = mkL ++ numsZ (hdZ ns links en tp ++ bdZ ns j)) ∧ Hid ((bdZ ns j).length ≤ 5000 * j) ∧ Hid (Below wE.heap.size wE wr)) (fun _ s52 _ => n - (intOf s52).toNat)
    case atStart => exact ⟨0, S0, Nat.zero_le _, rfl, rfl, HM, by show _ ≤ _; simp [bdZ], Below.refl _ _⟩
    case round =>
      obtain ⟨j, S, hj, rfl, rfl, hS, hbl, hbw⟩ := hrel
      have hsl : S.length ≤ 300000000 := by
        rw [hS.out, List.length_append]
        have h1 := numsZ_len (hdZ ns links en tp ++ bdZ ns j)
        rw [List.length_append] at h1
        have h2 := hbl.out
        have h3 := HL.out
        simp only [hdZ, mkL, List.length_cons, List.length_nil] at h1 ⊢
        omega
      have HBR := Lib.hid (HBX.out.trans (hbw.out.mono HBX.out.size))
      have hsz := HBX.out.size
      by_cases hlt : j < n
      · have HGR := Lib.hid (HGE.out.below (hbw.out.mono hsz))
        have HKR := Lib.hid (KE.out.below hbw.out KE.out.lt)
        obtain ⟨b', o', d, hA, hbb, hd, hr, hda⟩ := HGR.out.node hlt
        injection hA with hA
        injection hA with q1 q2
        subst q1 q2
        have LN := node_load hr
        have SN := node_put wr d
        have K1 := node_at wr d
        have bX := node_bel wr d
        obtain ⟨X1, hX1⟩ : ∃ y, (wr.alloc (.cells nd0.cells 42)).setCells wr.heap.size 0 d.cells.toList = y := ⟨_, rfl⟩
        rw [hX1] at SN K1 bX
        rw [nd0_lit] at SN
        have HK1 := Lib.hid K1
        have HND : Hid (nAt ns j = d) := nAt_of hd
        have HBX1 := Lib.hid (hbw.out.trans (bX.mono hbw.out.size))
        have HKX := Lib.hid (HKR.out.below bX HKR.out.lt)
        have HDA : Hid (d.At X1 w.heap.size) := hda.below (bX.mono (by have := hbw.out.size; omega))
        have HTG := Lib.hid (HT.out d (List.mem_of_getElem? hd))
        have LPX := plane_load HKX.out
        have HTH := Lib.hid (rf_there (some ⟨bA, oA, none⟩) n c ns en tp j X1 ((HGR.out.below (bX.mono (by have := hbw.out.size; omega))).more (by have := HKX.out.lt; omega)))
        rw [thB_nat] at HTH
        obtain ⟨th, hth⟩ : ∃ th, thN ns j = th := ⟨_, rfl⟩
        rw [hth] at HTH
        have HTHE := Lib.hid hth
        have HTD : Hid (toldB d th = true) := by
          have := HTO.out
          unfold tolB at this
          rw [List.all_eq_true] at this
          have := this j (List.mem_range.2 (by have := HL.out; omega))
          rw [HND.out, hth] at this
          exact this
        clear hd hr hda K1 bX hX1 hth hbb
        unfold pgL at LPX HTH
        go_upto_region 9 with (first | refine wpList_loadE LN _ rfl rfl rfl ?_ | refine wpList_storeE SN _ _ rfl rfl rfl rfl ?_)
        clear LN SN
        by_cases h0 : j = 0
        · subst h0
          have hthf : th = false := by
            cases th with
            | false => rfl
            | true => have := (thN_iff.1 HTHE.out).1; omega
          subst hthf
          have HSL : Hid (slZ ns 0 = []) := by show _ = _; unfold slZ; rw [if_neg (by rw [HTHE.out]; decide), if_neg (by omega)]
          clear LPX HTH
          go_wp2_with fail
          go_roundw
          case rel => exact ⟨1, S, by omega, by go_num, rfl, by show _ = _; rw [bdZ_succ, HSL.out, List.append_nil]; exact hS.out, by show _ ≤ _; rw [bdZ_succ, HSL.out, List.append_nil]; have := hbl.out; omega, HBX1⟩
          case measure => simp [intOf]; omega
        · have h0' : 0 < j := by omega
          clear h0
          cases th with
          | true =>
            have hbd := node_bd (chk_node HCK.out HTHE.out) (by rw [HND.out]; exact HDA.out.len.trans rfl) (by rw [HND.out]; exact fun x hx => (HDA.out.2.2.2.2.1 x hx).len)
            rw [HND.out] at hbd
            have HSL : Hid (slZ ns j = ndZ d) := by show _ = _; unfold slZ; rw [if_pos HTHE.out, HND.out]
            have hv4 : d.vec.n ≤ 4096 := by have := HTD.out; simpa [toldB] using this
            have HLN : Hid ((ndZ d).length ≤ 5000) := ndZ_len HDA.out.1.len hv4 (by rw [HDA.out.len]; omega) (fun x hx => by have := hbd.2 x hx; have := (HDA.out.2.2.2.2.1 x hx).len; simp [lsZ]; omega)
            obtain ⟨m, hm⟩ : ∃ m, numsZ (ndZ d) = m := ⟨_, rfl⟩
            have hml : m.length ≤ 50000 := by rw [← hm]; have := numsZ_len (ndZ d); have := HLN.out; omega
            have HM9 := Lib.hid hm
            have HRN : Hid (∀ W, Below X1.heap.size X1 W → Calls Try.prog 24 #[.agg d.cells] W fun e w' => e = .returned (.string (strOfNums m)) ∧ Below W.heap.size W w') := fun W hW => by
              have := rf_nodeI d W ((HDA.out.below (hW.mono (by have := HKX.out.lt; omega))).more (by have := hW.size; have := HKX.out.lt; omega)) HTG.out hv4 (by omega) (fun x hx => by have := hbd.2 x hx; omega)
              rw [hm] at this
              exact this
            clear hbd hv4 hm
            go_upto_region 10 with (first
              | refine wpList_loadE LPX _ rfl rfl rfl ?_
              | ((with_reducible refine wpList_loadG (op := ⟨some 60, _, _, _, _, _⟩) LPX ?lgX ?lgW ?lgO ?lgE ?_); (case lgO => exact rfl); (case lgE => exact rfl); (case lgW => kernel_rfl))
              | (go_at_call 23; (with_reducible refine HTH.out.mono ?_); rintro e X2 ⟨rfl, bx2⟩; have HX2 := Lib.hid bx2; clear bx2))
            clear LPX HTH
            have LN2 := load_node (HK1.out.below HX2.out HK1.out.lt)
            have HRN2 := Lib.hid (HRN.out X2 HX2.out)
            clear HRN
            go_wp2_with (first
              | refine wpList_loadE LN2 _ rfl rfl rfl ?_
              | (go_at_call 24; (with_reducible refine HRN2.out.mono ?_); rintro e X3 ⟨rfl, bx3⟩; have HX3 := Lib.hid (HBX1.out.trans ((HX2.out.trans (bx3.mono HX2.out.size)).mono HBX1.out.size)); clear bx3))
            clear LN2 HRN2
            go_roundw
            case rel => exact ⟨j + 1, S ++ m, by omega, by go_num, rfl, by show _ = _; rw [bdZ_succ, HSL.out, ← List.append_assoc (hdZ ns links en tp), numsZ_app _ (ndZ d), ← List.append_assoc, ← hS.out, HM9.out], by show _ ≤ _; rw [bdZ_succ, HSL.out, List.length_append]; have := HLN.out; have := hbl.out; omega, HX3⟩
            case measure => simp [intOf]; omega
          | false =>
            have HSL : Hid (slZ ns j = [0]) := by show _ = _; unfold slZ; rw [if_neg (by rw [HTHE.out]; decide), if_pos (by omega)]
            obtain ⟨m, hm⟩ : ∃ m, numsZ [(0 : Int)] = m := ⟨_, rfl⟩
            have hml : m.length ≤ 10 := by rw [← hm]; exact num_1 _
            have HM9 := Lib.hid hm
            clear hm
            go_wp2_with (first
              | refine wpList_loadE LPX _ rfl rfl rfl ?_
              | ((with_reducible refine wpList_loadG (op := ⟨some 60, _, _, _, _, _⟩) LPX ?lgX ?lgW ?lgO ?lgE ?_); (case lgO => exact rfl); (case lgE => exact rfl); (case lgW => kernel_rfl))
              | (go_at_call 23; (with_reducible refine HTH.out.mono ?_); rintro e X2 ⟨rfl, bx2⟩; have HX2 := Lib.hid bx2; clear bx2)
              | (go_at_call 22; (with_reducible refine (rf_numM HM9.out _).mono ?_); rintro e X3 ⟨rfl, bx3⟩; have HX3 := Lib.hid (HBX1.out.trans ((HX2.out.trans (bx3.mono HX2.out.size)).mono HBX1.out.size)); clear bx3))
            clear LPX HTH
            go_roundw
            case rel => exact ⟨j + 1, S ++ m, by omega, by go_num, rfl, by show _ = _; rw [bdZ_succ, HSL.out, ← List.append_assoc (hdZ ns links en tp), numsZ_app _ [0], ← List.append_assoc, ← hS.out, HM9.out], by show _ ≤ _; rw [bdZ_succ, HSL.out, List.length_append]; have := hbl.out; simp only [List.length_cons, List.length_nil]; omega, HX3⟩
            case measure => simp [intOf]; omega
      · obtain rfl : n = j := by omega
        have HPL : Hid (putL ns links en tp = S) := by show _ = _; rw [hS.out]; unfold putL imZ; rw [HL.out]
        have hby : Bytes S := by rw [← HPL.out]; exact putL_bytes ns links en tp
        have HSU := Lib.hid (rf_sum S hby (by omega))
        have hs3 : (sumB S).length = 4 := rfl
        clear hS hbl hlt
        go_wp2_with (go_at_call 25; (with_reducible refine (HSU.out _).mono ?_); rintro e X6 ⟨rfl, hb6⟩; have HB6 := Lib.hid (HBR.out.trans (hb6.mono HBR.out.size)); clear hb6)
        refine bodyPost_ret (v := .tuple #[.string (strOfNums (S ++ sumB S)), .int .i64 0]) (by simp [results, Try.results8, go_sem]) rfl ?_
        exact ⟨by rw [E1.out, E2.out, HPL.out], HB6.out⟩
end Go.Proofs.Ytbpcddimnbjoeaa
