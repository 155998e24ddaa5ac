/- The walk of ImageBack. Printed by genImB3.py out of ImB3.frame. -/
import Derived.Test.YtbpcddimnbjoeaaImXB
import Derived.Test.YtbpcddimnbjoeaaImUW
namespace Go.Proofs.Ytbpcddimnbjoeaa
open Go.RowKit
theorem bytes_ig (s : ByteArray) (k : Nat) (hk : k < s.size) : (((s.data.toList.getD k 0).toNat : Nat) : Int) = ig (bytesOf s) k := by
  unfold ig bytesOf
  have : k < s.data.toList.length := by simpa using hk
  rw [List.getD_eq_getElem?_getD, List.getD_eq_getElem?_getD, List.getElem?_map, List.getElem?_eq_getElem this]
  rfl
theorem bytes_set {l : List Int} {k : Nat} {x : Int} (hb : Bytes l) (hx : 0 ≤ x ∧ x < 256) : Bytes (l.set k x) := by
  intro b hm
  rcases List.mem_or_eq_of_mem_set hm with h | h
  · exact hb b h
  · rw [h]; exact hx
theorem bw_frozen (w : World) (s : ByteArray) (j : Nat) (hj : j < s.size) : (Lib.bytesWorld w 5 s).frozen? ⟨w.heap.size, j, none⟩ = false := by
  have hsz : s.size ≤ (Lib.bytesCells w 5 s).size := by unfold Lib.bytesCells; rw [Array.size_append, Array.size_map]; exact Nat.le_add_right _ _
  simp [World.frozen?, Lib.bytesWorld_at_new]
  omega
theorem conv_back {W3 : World} (g cap : Nat) (s : ByteArray) (k x : Nat) (hx : x < 256) (hk : k < s.size) (hc : ∀ j, j < s.size → W3.cell? ⟨g, j, none⟩ = some (.int .u8 (s.data.toList.getD j 0).toNat)) :
    (convert 34 9 (.slice (some ⟨g, 0, none⟩) s.size cap)).run Try.prog (W3.setCell ⟨g, k, none⟩ (.int .u8 (x : Int))) = .ok (.string (strOfNums ((bytesOf s).set k (x : Int)))) (W3.setCell ⟨g, k, none⟩ (.int .u8 (x : Int))) := by
  have hlen : (s.data.toList.set k (UInt8.ofNat x)).length = s.size := by rw [List.length_set]; rfl
  have h := run_convert_bytes_back (P := Try.prog) (W3.setCell ⟨g, k, none⟩ (.int .u8 (x : Int))) 34 9 5 ⟨g, 0, none⟩ cap (s.data.toList.set k (UInt8.ofNat x)) Try.underlying34 Try.underlying5 Try.underlying9 (fun j hj => by
    have hj' : j < s.size := by rw [← hlen]; exact hj
    have hadd : (⟨g, 0, none⟩ : Addr).add j = ⟨g, j, none⟩ := by simp [Addr.add]; try exact fun h => h.symm
    rw [hadd]
    by_cases e : j = k
    · subst e
      rw [World.cell?_setCell_same (w := W3) (h := hc j hj')]
      simp [UInt8.toNat_ofNat', Nat.mod_eq_of_lt hx]
    · rw [World.cell?_setCell_other (w := W3) (h := fun q => e (by injection q with _ q2; exact q2.symm)), hc j hj']
      simp only [List.getElem_set, if_neg (Ne.symm e)]
      rw [List.getD_eq_getElem?_getD, List.getElem?_eq_getElem (by simpa using hj')]
      rfl)
  rw [hlen, turned_str] at h
  exact h
theorem u8_rng {z : Int} (h : (Lit.int .u8 z).wf = true) : 0 ≤ z ∧ z < 256 := by
  unfold Lit.wf at h
  rw [Bool.and_eq_true] at h
  have h1 : (0 : Int) ≤ z := of_decide_eq_true h.1
  have h2 : z ≤ 255 := of_decide_eq_true h.2
  omega
set_option maxRecDepth 100000 in
set_option maxHeartbeats 16000000 in
theorem back41 (A : Option Addr) (n c : Nat) (ns : List ND) (en tp links : Int) (s : ByteArray) (at' tu : Int) (W : World) (hg : PgRaw W W.heap.size A n c ns) (ht : ∀ d ∈ ns, (Lit.int .u64 d.tags).wf = true) (htu : 0 ≤ tu ∧ tu < 256) :
    Calls Try.prog 4 #[.agg (pgL A n c en tp), .int .i64 links, .string s, .int .i64 at', .int .u8 tu] W (RetB true W) := by
  obtain ⟨w1, hw1⟩ : ∃ x, W.alloc (.cells #[.slice A n c, .int .i64 en, .int .i64 tp] 24) = x := ⟨_, rfl⟩
  obtain ⟨k1, b1⟩ := box_planeM hw1
  have HRW := Lib.hid ((hg.below b1).more b1.size)
  have HT := Lib.hid ht
  have HK := Lib.hid k1
  have HB := Lib.hid b1
  unfold pgL
  clear hg ht k1 b1
  have HS : Hid (∀ V, Below w1.heap.size w1 V → Calls Try.prog 5 #[.agg #[.slice A n c, .int .i64 en, .int .i64 tp]] V (RetZ (smI (smB ns)) V)) := fun V hV => small12 A n c ns en tp V ((HRW.out.below hV).more hV.size)
  go_enter Try.func4, Try.ntmps4
  go_upto_region 1 with fail
  (try rw [hw1])
  clear hw1
  go_upto_region 3 with (go_at_call 6; (with_reducible refine (lives41 w1).mono ?_); rintro e w2 ⟨rfl, h2⟩; have HB2 := Lib.hid h2; clear h2)
  have LP1 := plane_loadM (HK.out.below HB2.out HK.out.lt)
  have HSM := Lib.hid (HS.out w2 HB2.out)
  unfold pgL at LP1
  cases hsb : smB ns with
  | false =>
    rw [hsb] at HSM
    have h0 : smI false = 0 := rfl
    rw [h0] at HSM
    clear h0 hsb
    go_wp2_with (first
      | refine wpList_loadT LP1 (by rfl) ?_
      | (go_at_call 5; (with_reducible refine HSM.out.mono ?_); rintro e w3 ⟨rfl, h3⟩; have HB3 := Lib.hid h3; clear h3))
    go_ret
    exact ⟨rfl, (HB.out.trans (HB2.out.mono HB.out.size)).trans (HB3.out.mono (Nat.le_trans HB.out.size HB2.out.size))⟩
  | true =>
    have HG := Lib.hid (HRW.out.at_ hsb)
    rw [hsb] at HSM
    have h0 : smI true = 1 := rfl
    rw [h0] at HSM
    clear h0
    by_cases h3 : s.size ≤ 3000
    · have h3i : ¬ ((s.size : Int) > 3000) := by omega
      obtain ⟨l, hlb⟩ : ∃ l, bytesOf s = l := ⟨_, rfl⟩
      have hsl : strOfNums l = s := by rw [← hlb]; exact str_of s
      have hbl : Bytes l := by rw [← hlb]; exact bytes_of s
      have hll : l.length ≤ 1000000 := by rw [← hlb]; exact lenS h3
      have HSB := Lib.hid hsb
      clear HS HRW h3 hsb
      go_upto_region 5 with (first
        | refine wpList_loadT LP1 (by rfl) ?_
        | (go_at_call 5; (with_reducible refine HSM.out.mono ?_); rintro e w3 ⟨rfl, h3⟩; have HB3 := Lib.hid (HB2.out.trans (h3.mono HB2.out.size)); clear h3))
      clear LP1 HSM HB2
      have LP2 := plane_loadM (HK.out.below HB3.out HK.out.lt)
      have HP := Lib.hid (im_put A n c ns en tp links w3 ((HG.out.below HB3.out).more HB3.out.size) HT.out)
      unfold pgL at LP2 HP
      by_cases hE : putE ns links en tp = 0
      · obtain ⟨lk, rfl, hpo, hck⟩ := plok_of HG.out HT.out hE
        obtain ⟨hby, hle⟩ := put_bytes HG.out HSB.out hE
        have hrb := read_back hpo hck
        have hps : putS ns lk en tp = putL ns lk en tp ++ sumB (putL ns lk en tp) := by unfold putS; rw [if_pos hE]
        rw [← hps] at hrb
        obtain ⟨S, hS⟩ : ∃ S, putS ns lk en tp = S := ⟨_, rfl⟩
        rw [hS] at hby hle hrb
        rw [hS, hE] at HP
        have HRD := Lib.hid (fun V => im_read S hby hle V)
        rw [hrb] at HRD
        clear hby hle hrb hps hS hE hpo hck
        go_upto_region 6 with (first
          | refine wpList_loadT LP2 (by rfl) ?_
          | (go_at_call 7; (with_reducible refine HP.out.mono ?_); rintro e w4 ⟨rfl, h4⟩; have HB4 := Lib.hid (HB3.out.trans (h4.mono HB3.out.size)); clear h4))
        clear LP2 HP HB3
        go_upto_region 8 with (go_at_call 9; (with_reducible refine (HRD.out w4).mono ?_); rintro e w5 ⟨A5, n5, c5, ds5, he5, hp5, hd5, hb5⟩; obtain rfl : e = .returned (.tuple #[.agg #[.slice A5 n5 c5, .int .i64 en, .int .i64 tp], .int .i64 lk, .int .i64 0]) := he5; have HP5 := Lib.hid hp5; have HD5 := Lib.hid hd5; have HB5 := Lib.hid (HB4.out.trans (hb5.mono HB4.out.size)); clear hp5 hd5 hb5)
        obtain ⟨x5, hx5⟩ : ∃ x, w5.alloc (.cells #[.slice A5 n5 c5, .int .i64 en, .int .i64 tp] 24) = x := ⟨_, rfl⟩
        obtain ⟨k5, b5⟩ := box_planeM hx5
        have HBX := Lib.hid (HB5.out.trans (b5.mono HB5.out.size))
        have LPb := plane_loadM k5
        have LPa := plane_loadM (HK.out.below HBX.out HK.out.lt)
        have HSMX := Lib.hid (same_pl A A5 n n5 c c5 ns ds5 en tp x5 ((HG.out.below HBX.out).more HBX.out.size) ((HP5.out.1.below b5).more b5.size) HD5.out.symm)
        unfold pgL at LPa LPb HSMX
        obtain ⟨G5, hG5⟩ : ∃ x, w5.heap.size = x := ⟨_, rfl⟩
        rw [hG5] at LPb
        (try rw [hx5])
        (try rw [hG5])
        clear hx5 hG5 k5 b5 HP5 HD5 HB5 HB4 HRD
        go_upto_region 10 with (first
          | ((refine wpList_loadTG LPa ?lgA (by rfl) ?_); (case lgA => kernel_rfl))
          | ((refine wpList_loadTG LPb ?lgB (by rfl) ?_); (case lgB => kernel_rfl))
          | (go_at_call 11; (with_reducible refine HSMX.out.mono ?_); rintro e w7 ⟨rfl, h7⟩; have HB7 := Lib.hid (HBX.out.trans (h7.mono HBX.out.size)); clear h7))
        clear LPa LPb HSMX HBX
        by_cases he : (readR l).e = 0
        · obtain ⟨ns', en', tp', lk', hr', hpe, hps, hnn⟩ := print_back hbl he
          have HRS := Lib.hid (im_read l hbl hll w7)
          rw [hr', hsl] at HRS
          go_upto_region 11 with (go_at_call 9; (with_reducible refine HRS.out.mono ?_); rintro e w8 ⟨A8, n8, c8, ds8, he8, hp8, hd8, hb8⟩; obtain rfl : e = .returned (.tuple #[.agg #[.slice A8 n8 c8, .int .i64 en', .int .i64 tp'], .int .i64 lk', .int .i64 0]) := he8; have HP8 := Lib.hid hp8; have HD8 := Lib.hid hd8; have HB8 := Lib.hid (HB7.out.trans (hb8.mono HB7.out.size)); clear hp8 hd8 hb8)
          clear HRS
          obtain ⟨x8, hx8⟩ : ∃ x, w8.alloc (.cells #[.slice A8 n8 c8, .int .i64 en', .int .i64 tp'] 24) = x := ⟨_, rfl⟩
          obtain ⟨k8, b8⟩ := box_planeM hx8
          have LP8 := plane_loadM k8
          have HPX := Lib.hid ((HP8.out.below b8).more b8.size)
          have HBX := Lib.hid (HB8.out.trans (b8.mono HB8.out.size))
          have HPT := Lib.hid (im_put A8 n8 c8 ds8 en' tp' lk' x8 HPX.out.1 HPX.out.2)
          have e1 : putE ds8 lk' en' tp' = 0 := by rw [← putE_norm, HD8.out]; exact hpe
          have e2 : putS ds8 lk' en' tp' = l := by rw [← putS_norm, HD8.out]; exact hps
          rw [e1, e2] at HPT
          unfold RetPI at HPT
          rw [hsl] at HPT
          unfold pgL at LP8 HPT
          obtain ⟨G8, hG8⟩ : ∃ x, w8.heap.size = x := ⟨_, rfl⟩
          rw [hG8] at LP8
          (try rw [hx8])
          (try rw [hG8])
          clear hx8 hG8 k8 b8 e1 e2 hps hpe hnn
          go_upto_region 14 with (first
            | refine wpList_loadT LP8 (by rfl) ?_
            | (go_at_call 7; (with_reducible refine HPT.out.mono ?_); rintro e Q ⟨rfl, hbq⟩; have HBQ := Lib.hid (HBX.out.trans (hbq.mono HBX.out.size)); clear hbq))
          clear LP8 HPT HPX HBX HP8 HD8 HB8
          go_upto_region 16 with fail
          by_cases hneg : at' < 0
          · go_wp2_with fail
            go_ret
            exact ⟨rfl, HB.out.trans (HBQ.out.mono HB.out.size)⟩
          obtain ⟨k, rfl⟩ := Int.eq_ofNat_of_zero_le (show 0 ≤ at' by omega)
          by_cases hbig : s.size ≤ k
          · have hbi : (k : Int) ≥ (s.size : Int) := by omega
            go_wp2_with fail
            go_ret
            exact ⟨rfl, HB.out.trans (HBQ.out.mono HB.out.size)⟩
          have hks : k < s.size := by omega
          have hkl : k < l.length := by rw [← hlb, size_of]; exact hks
          have hbi : ¬ ((k : Int) ≥ (s.size : Int)) := by omega
          by_cases ht0 : tu = 0
          · subst ht0
            go_wp2_with fail
            go_ret
            exact ⟨rfl, HB.out.trans (HBQ.out.mono HB.out.size)⟩
          have htb : (tu == 0) = false := by simpa using ht0
          obtain ⟨x, hx1, hx2, hx3⟩ := turn_x (b := ig l k) (hbl.at_ k) htu ht0
          obtain ⟨W3, hW3⟩ : ∃ q, Lib.bytesWorld Q 5 s = q := ⟨_, rfl⟩
          have CV := conv_to Q s
          rw [hW3] at CV
          have b3 : Below Q.heap.size Q W3 := by rw [← hW3]; exact bw_below Q s
          have hcell : ∀ j, j < s.size → W3.cell? ⟨Q.heap.size, j, none⟩ = some (.int .u8 (s.data.toList.getD j 0).toNat) := fun j hj => by rw [← hW3]; exact Lib.bytesWorld_cell Q _ s j hj
          have hfz : ∀ j, j < s.size → W3.frozen? ⟨Q.heap.size, j, none⟩ = false := fun j hj => by rw [← hW3]; exact bw_frozen Q s j hj
          have hig : (((s.data.toList.getD k 0).toNat : Nat) : Int) = ig l k := by rw [← hlb]; exact bytes_ig s k hks
          have ck : W3.cell? ⟨Q.heap.size, k, none⟩ = some (.int .u8 (ig l k)) := by rw [← hig]; exact hcell k hks
          have fk := hfz k hks
          have hx1' : bits .xor .u8 (ig l k) tu = (x : Int) := hx1
          obtain ⟨W4, hW4⟩ : ∃ q, W3.setCell ⟨Q.heap.size, k, none⟩ (.int .u8 (x : Int)) = q := ⟨_, rfl⟩
          have b4 : Below Q.heap.size Q W4 := by rw [← hW4]; exact b3.setCell (p := ⟨Q.heap.size, k, none⟩) (Nat.le_refl _) _
          have CB : (convert 34 9 (.slice (some ⟨Q.heap.size, 0, none⟩) s.size (grownCap Q s.size 0 5))).run Try.prog W4 = .ok (.string (strOfNums (l.set k (x : Int)))) W4 := by rw [← hW4, ← hlb]; exact conv_back Q.heap.size (grownCap Q s.size 0 5) s k x hx2 hks hcell
          have hno := turn_no hbl he hkl ⟨by omega, by omega⟩ hx3
          obtain ⟨r2, hr2⟩ : ∃ r, readR (l.set k (x : Int)) = r := ⟨_, rfl⟩
          have HR2 := Lib.hid (im_read (l.set k (x : Int)) (bytes_set hbl ⟨by omega, by omega⟩) (by rw [List.length_set]; exact hll) W4)
          rw [hr2] at HR2 hno
          obtain ⟨rns2, ren2, rtp2, rlk2, rer2⟩ := r2
          have hne : (rer2 != 0) = true := by simpa using hno
          have HB4 := Lib.hid (HBQ.out.trans (b4.mono HBQ.out.size))
          obtain ⟨GQ, hGQ⟩ : ∃ g, Q.heap.size = g := ⟨_, rfl⟩
          obtain ⟨CC, hCC⟩ : ∃ g, grownCap Q s.size 0 5 = g := ⟨_, rfl⟩
          have hksi : (k : Int) < (s.size : Int) := by omega
          rw [hGQ, hCC] at CV CB
          rw [hGQ] at ck fk hW4
          clear hW3 hcell hfz hig b3 b4 hGQ hCC hno hr2 hx1 hx3
          go_upto_region 19 with (refine wpList_convT CV (by rfl) ?_)
          go_upto_region 20 with fail
          (try rw [hW4])
          clear hW4 ck fk CV
          go_wp2_with (first
            | refine wpList_convT CB (by rfl) ?_
            | (go_at_call 9; (with_reducible refine HR2.out.mono ?_); rintro e w9 ⟨A9, n9, c9, ds9, he9, hp9, hd9, hb9⟩; obtain rfl : e = .returned (.tuple #[.agg #[.slice A9 n9 c9, .int .i64 ren2, .int .i64 rtp2], .int .i64 rlk2, .int .i64 rer2]) := he9; have HB9 := Lib.hid (HB4.out.trans (hb9.mono HB4.out.size)); clear hp9 hd9 hb9))
          go_ret
          exact ⟨rfl, HB.out.trans ((HB9.out.alloc HB9.out.size _).mono HB.out.size)⟩
        · obtain ⟨q1, q2⟩ := read_bad he
          obtain ⟨r, hr⟩ : ∃ r, readR l = r := ⟨_, rfl⟩
          have HRS := Lib.hid (im_read l hbl hll w7)
          rw [hr, hsl] at HRS
          rw [hr] at he q1 q2
          obtain ⟨rns, ren, rtp, rlk, rer⟩ := r
          dsimp only at he q1 q2
          subst q1 q2
          have hne : (rer != 0) = true := by simpa using he
          go_upto_region 11 with (go_at_call 9; (with_reducible refine HRS.out.mono ?_); rintro e w8 ⟨A8, n8, c8, ds8, he8, hp8, hd8, hb8⟩; obtain rfl : e = .returned (.tuple #[.agg #[.slice A8 n8 c8, .int .i64 ren, .int .i64 rtp], .int .i64 0, .int .i64 rer]) := he8; have HP8 := Lib.hid hp8; have HD8 := Lib.hid hd8; have HB8 := Lib.hid (HB7.out.trans (hb8.mono HB7.out.size)); clear hp8 hd8 hb8)
          have hn8 : n8 = 0 := by
            have h1 := HP8.out.1.len
            have h2 := congrArg List.length HD8.out
            rw [List.length_map] at h2
            rw [← h1, h2]; rfl
          subst hn8
          clear HRS HP8 HD8
          go_wp2_with fail
          go_ret
          exact ⟨rfl, HB.out.trans ((HB8.out.alloc HB8.out.size _).mono HB.out.size)⟩
      · obtain ⟨E, hE2⟩ : ∃ E, putE ns links en tp = E := ⟨_, rfl⟩
        obtain ⟨S, hS⟩ : ∃ S, putS ns links en tp = S := ⟨_, rfl⟩
        rw [hE2] at hE
        rw [hS, hE2] at HP
        have hEb : (E == 0) = false := by simpa using hE
        clear hE hE2 hS
        go_upto_region 10 with (first
          | refine wpList_loadT LP2 (by rfl) ?_
          | (go_at_call 7; (with_reducible refine HP.out.mono ?_); rintro e w4 ⟨rfl, h4⟩; have HB4 := Lib.hid (HB3.out.trans (h4.mono HB3.out.size)); clear h4))
        clear LP2 HP HB3
        by_cases he : (readR l).e = 0
        · obtain ⟨ns', en', tp', lk', hr', hpe, hps, hnn⟩ := print_back hbl he
          have HRS := Lib.hid (im_read l hbl hll w4)
          rw [hr', hsl] at HRS
          go_upto_region 11 with (go_at_call 9; (with_reducible refine HRS.out.mono ?_); rintro e w8 ⟨A8, n8, c8, ds8, he8, hp8, hd8, hb8⟩; obtain rfl : e = .returned (.tuple #[.agg #[.slice A8 n8 c8, .int .i64 en', .int .i64 tp'], .int .i64 lk', .int .i64 0]) := he8; have HP8 := Lib.hid hp8; have HD8 := Lib.hid hd8; have HB8 := Lib.hid (HB4.out.trans (hb8.mono HB4.out.size)); clear hp8 hd8 hb8)
          clear HRS
          obtain ⟨x8, hx8⟩ : ∃ x, w8.alloc (.cells #[.slice A8 n8 c8, .int .i64 en', .int .i64 tp'] 24) = x := ⟨_, rfl⟩
          obtain ⟨k8, b8⟩ := box_planeM hx8
          have LP8 := plane_loadM k8
          have HPX := Lib.hid ((HP8.out.below b8).more b8.size)
          have HBX := Lib.hid (HB8.out.trans (b8.mono HB8.out.size))
          have HPT := Lib.hid (im_put A8 n8 c8 ds8 en' tp' lk' x8 HPX.out.1 HPX.out.2)
          have e1 : putE ds8 lk' en' tp' = 0 := by rw [← putE_norm, HD8.out]; exact hpe
          have e2 : putS ds8 lk' en' tp' = l := by rw [← putS_norm, HD8.out]; exact hps
          rw [e1, e2] at HPT
          unfold RetPI at HPT
          rw [hsl] at HPT
          unfold pgL at LP8 HPT
          obtain ⟨G8, hG8⟩ : ∃ x, w8.heap.size = x := ⟨_, rfl⟩
          rw [hG8] at LP8
          (try rw [hx8])
          (try rw [hG8])
          clear hx8 hG8 k8 b8 e1 e2 hps hpe hnn
          go_upto_region 14 with (first
            | refine wpList_loadT LP8 (by rfl) ?_
            | (go_at_call 7; (with_reducible refine HPT.out.mono ?_); rintro e Q ⟨rfl, hbq⟩; have HBQ := Lib.hid (HBX.out.trans (hbq.mono HBX.out.size)); clear hbq))
          clear LP8 HPT HPX HBX HP8 HD8 HB8
          go_upto_region 16 with fail
          by_cases hneg : at' < 0
          · go_wp2_with fail
            go_ret
            exact ⟨rfl, HB.out.trans (HBQ.out.mono HB.out.size)⟩
          obtain ⟨k, rfl⟩ := Int.eq_ofNat_of_zero_le (show 0 ≤ at' by omega)
          by_cases hbig : s.size ≤ k
          · have hbi : (k : Int) ≥ (s.size : Int) := by omega
            go_wp2_with fail
            go_ret
            exact ⟨rfl, HB.out.trans (HBQ.out.mono HB.out.size)⟩
          have hks : k < s.size := by omega
          have hkl : k < l.length := by rw [← hlb, size_of]; exact hks
          have hbi : ¬ ((k : Int) ≥ (s.size : Int)) := by omega
          by_cases ht0 : tu = 0
          · subst ht0
            go_wp2_with fail
            go_ret
            exact ⟨rfl, HB.out.trans (HBQ.out.mono HB.out.size)⟩
          have htb : (tu == 0) = false := by simpa using ht0
          obtain ⟨x, hx1, hx2, hx3⟩ := turn_x (b := ig l k) (hbl.at_ k) htu ht0
          obtain ⟨W3, hW3⟩ : ∃ q, Lib.bytesWorld Q 5 s = q := ⟨_, rfl⟩
          have CV := conv_to Q s
          rw [hW3] at CV
          have b3 : Below Q.heap.size Q W3 := by rw [← hW3]; exact bw_below Q s
          have hcell : ∀ j, j < s.size → W3.cell? ⟨Q.heap.size, j, none⟩ = some (.int .u8 (s.data.toList.getD j 0).toNat) := fun j hj => by rw [← hW3]; exact Lib.bytesWorld_cell Q _ s j hj
          have hfz : ∀ j, j < s.size → W3.frozen? ⟨Q.heap.size, j, none⟩ = false := fun j hj => by rw [← hW3]; exact bw_frozen Q s j hj
          have hig : (((s.data.toList.getD k 0).toNat : Nat) : Int) = ig l k := by rw [← hlb]; exact bytes_ig s k hks
          have ck : W3.cell? ⟨Q.heap.size, k, none⟩ = some (.int .u8 (ig l k)) := by rw [← hig]; exact hcell k hks
          have fk := hfz k hks
          have hx1' : bits .xor .u8 (ig l k) tu = (x : Int) := hx1
          obtain ⟨W4, hW4⟩ : ∃ q, W3.setCell ⟨Q.heap.size, k, none⟩ (.int .u8 (x : Int)) = q := ⟨_, rfl⟩
          have b4 : Below Q.heap.size Q W4 := by rw [← hW4]; exact b3.setCell (p := ⟨Q.heap.size, k, none⟩) (Nat.le_refl _) _
          have CB : (convert 34 9 (.slice (some ⟨Q.heap.size, 0, none⟩) s.size (grownCap Q s.size 0 5))).run Try.prog W4 = .ok (.string (strOfNums (l.set k (x : Int)))) W4 := by rw [← hW4, ← hlb]; exact conv_back Q.heap.size (grownCap Q s.size 0 5) s k x hx2 hks hcell
          have hno := turn_no hbl he hkl ⟨by omega, by omega⟩ hx3
          obtain ⟨r2, hr2⟩ : ∃ r, readR (l.set k (x : Int)) = r := ⟨_, rfl⟩
          have HR2 := Lib.hid (im_read (l.set k (x : Int)) (bytes_set hbl ⟨by omega, by omega⟩) (by rw [List.length_set]; exact hll) W4)
          rw [hr2] at HR2 hno
          obtain ⟨rns2, ren2, rtp2, rlk2, rer2⟩ := r2
          have hne : (rer2 != 0) = true := by simpa using hno
          have HB4 := Lib.hid (HBQ.out.trans (b4.mono HBQ.out.size))
          obtain ⟨GQ, hGQ⟩ : ∃ g, Q.heap.size = g := ⟨_, rfl⟩
          obtain ⟨CC, hCC⟩ : ∃ g, grownCap Q s.size 0 5 = g := ⟨_, rfl⟩
          have hksi : (k : Int) < (s.size : Int) := by omega
          rw [hGQ, hCC] at CV CB
          rw [hGQ] at ck fk hW4
          clear hW3 hcell hfz hig b3 b4 hGQ hCC hno hr2 hx1 hx3
          go_upto_region 19 with (refine wpList_convT CV (by rfl) ?_)
          go_upto_region 20 with fail
          (try rw [hW4])
          clear hW4 ck fk CV
          go_wp2_with (first
            | refine wpList_convT CB (by rfl) ?_
            | (go_at_call 9; (with_reducible refine HR2.out.mono ?_); rintro e w9 ⟨A9, n9, c9, ds9, he9, hp9, hd9, hb9⟩; obtain rfl : e = .returned (.tuple #[.agg #[.slice A9 n9 c9, .int .i64 ren2, .int .i64 rtp2], .int .i64 rlk2, .int .i64 rer2]) := he9; have HB9 := Lib.hid (HB4.out.trans (hb9.mono HB4.out.size)); clear hp9 hd9 hb9))
          go_ret
          exact ⟨rfl, HB.out.trans ((HB9.out.alloc HB9.out.size _).mono HB.out.size)⟩
        · obtain ⟨q1, q2⟩ := read_bad he
          obtain ⟨r, hr⟩ : ∃ r, readR l = r := ⟨_, rfl⟩
          have HRS := Lib.hid (im_read l hbl hll w4)
          rw [hr, hsl] at HRS
          rw [hr] at he q1 q2
          obtain ⟨rns, ren, rtp, rlk, rer⟩ := r
          dsimp only at he q1 q2
          subst q1 q2
          have hne : (rer != 0) = true := by simpa using he
          go_upto_region 11 with (go_at_call 9; (with_reducible refine HRS.out.mono ?_); rintro e w8 ⟨A8, n8, c8, ds8, he8, hp8, hd8, hb8⟩; obtain rfl : e = .returned (.tuple #[.agg #[.slice A8 n8 c8, .int .i64 ren, .int .i64 rtp], .int .i64 0, .int .i64 rer]) := he8; have HP8 := Lib.hid hp8; have HD8 := Lib.hid hd8; have HB8 := Lib.hid (HB4.out.trans (hb8.mono HB4.out.size)); clear hp8 hd8 hb8)
          have hn8 : n8 = 0 := by
            have h1 := HP8.out.1.len
            have h2 := congrArg List.length HD8.out
            rw [List.length_map] at h2
            rw [← h1, h2]; rfl
          subst hn8
          clear HRS HP8 HD8
          go_wp2_with fail
          go_ret
          exact ⟨rfl, HB.out.trans ((HB8.out.alloc HB8.out.size _).mono HB.out.size)⟩
    · have h3i : (s.size : Int) > 3000 := by omega
      clear h3
      go_wp2_with (first
        | refine wpList_loadT LP1 (by rfl) ?_
        | (go_at_call 5; (with_reducible refine HSM.out.mono ?_); rintro e w3 ⟨rfl, h3⟩; have HB3 := Lib.hid h3; clear h3))
      go_ret
      exact ⟨rfl, (HB.out.trans (HB2.out.mono HB.out.size)).trans (HB3.out.mono (Nat.le_trans HB.out.size HB2.out.size))⟩
end Go.Proofs.Ytbpcddimnbjoeaa
