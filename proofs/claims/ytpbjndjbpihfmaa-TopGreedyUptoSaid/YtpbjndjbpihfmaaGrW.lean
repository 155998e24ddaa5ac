/- Steps downhill: walk.Step, walk.Level; the items of a plane: all. -/
import Derived.Test.YtpbjndjbpihfmaaGrP
import Derived.Test.YtpbjndjbpihfmaaRkT
import Derived.Deep.CutRange
namespace Go.Proofs.Ytpbjndjbpihfmaa
open Go.RowKit
theorem own_oneS (w : World) (x : Sp) (B : Nat) (hB : B ≤ w.heap.size) : (w.alloc (.cells (spC x) 44)).ownsRow B 44 3 (.slice (some ⟨w.heap.size, 0, none⟩) 1 1) 1 (flatS [x]) :=
  ⟨rfl, .inr ⟨w.heap.size, 1, spC x, rfl, hB, heap_alloc_new w _, Nat.le_refl _, by unfold maxLen; omega, rfl, rfl⟩⟩
theorem own_oneI (w : World) (z : Int) (B : Nat) (hB : B ≤ w.heap.size) : OwnI (w.alloc (.cells #[.int .i64 z] 3)) B (some ⟨w.heap.size, 0, none⟩) 1 1 [z] :=
  ⟨rfl, .inr ⟨w.heap.size, 1, #[.int .i64 z], rfl, hB, heap_alloc_new w _, Nat.le_refl _, by unfold maxLen; omega, rfl, rfl⟩⟩
theorem apartI {w : World} {B e n5 c5 t c7 sz : Nat} {A5 A7 : Option Addr} {l : List Int} {xs : List Value} (h5 : OwnI w B A5 n5 c5 l) (h7 : w.ownsRow B e sz (.slice A7 t c7) t xs) (hne : ∀ b, A5 = some ⟨b, 0, none⟩ → A7 ≠ some ⟨b, 0, none⟩) :
    ∀ k, (Value.slice A5 n5 c5).ownBlock = some k → ¬ (some k = (Value.slice A7 t c7).ownBlock) := by
  intro k hk h
  rcases h5.row with ⟨rfl, _⟩ | ⟨g, rfl, _⟩
  · cases hk
  · injection hk with hk
    subst hk
    rcases h7.2 with ⟨q, _⟩ | ⟨g', cap, cur, q, _⟩
    · injection q with q1 _ _
      subst q1
      cases h
    · injection q with q1 _ _
      subst q1
      injection h with h
      subst h
      exact hne _ rfl rfl
theorem thN_lt {ns : List ND} {k : Nat} (h : thN ns k = true) : k < ns.length := (thN_iff.1 h).2.1
set_option maxRecDepth 100000 in
set_option maxHeartbeats 8000000 in
theorem wk_step (A : Option Addr) (n c : Nat) (ns : List ND) (en tp : Int) (q : IS) (k : Nat) (w : World) (hg : PgAt w w.heap.size A n c ns) (hq : q.Vec w w.heap.size) (hk : thN ns k = true) :
    Calls Try.prog 22 #[.agg (pgL A n c en tp), q.v, .int .i64 ((k : Nat) : Int), .int .i64 0] w (fun e w' => ∃ j : Nat, e = .returned (.tuple #[.int .i64 ((j : Nat) : Int), .bool (decide (j ≠ k))]) ∧ StepR q ns k j ∧ Below w.heap.size w w') := by
  obtain ⟨w1, hw1⟩ : ∃ x, w.alloc (.cells (pgL A n c en tp) 36) = x := ⟨_, rfl⟩
  obtain ⟨C1, b1⟩ := box_plane hw1
  have hkn : k < n := by rw [← hg.len]; exact thN_lt hk
  have hg1 : PgAt w1 w1.heap.size A n c ns := (hg.below b1).more b1.size
  have hq1 : q.Vec w1 w1.heap.size := (hq.below b1).more b1.size
  have LP := plane_load C1
  obtain ⟨x0, hx0⟩ : ∃ x, spN q ns k = x := ⟨_, rfl⟩
  have hsp := walk_spot A n c ns en tp q k w1 hg1 hq1 hkn
  rw [hx0] at hsp
  have HSP := Lib.hid hsp
  have HG1 := Lib.hid hg1
  have HQ1 := Lib.hid hq1
  have HC1 := Lib.hid C1
  have HB1 := Lib.hid b1
  have HK := Lib.hid hk
  have HX0 := Lib.hid hx0
  have HNL := Lib.hid hg.len
  have HNB := Lib.hid hg.2.1
  clear hg hq hk hkn hsp hg1 hq1 C1 b1 hx0
  unfold pgL at hw1 LP HSP ⊢
  unfold spV at HSP
  go_enter Try.func22, Try.ntmps22
  go_upto_region 1 with fail
  (try rw [hw1])
  clear hw1
  go_upto_region 2 with (first
    | refine wpList_loadE LP _ rfl rfl rfl ?_
    | (go_at_call 14; (with_reducible refine HSP.out.mono ?_); rintro e w2 ⟨rfl, hb⟩; have HB2 := Lib.hid hb; clear hb HSP))
  clear LP
  obtain ⟨W3, hW3⟩ : ∃ W3, w2.alloc (.cells #[.int .u64 x0.d, .int .u64 x0.id, .int .i64 x0.s] 44) = W3 := ⟨_, rfl⟩
  have ho3 := own_oneS w2 x0 w1.heap.size HB2.out.size
  have hw3 : w2.alloc (.cells (spC x0) 44) = W3 := hW3
  rw [hw3] at ho3
  have hb3 : Below w2.heap.size w2 W3 := by rw [← hW3]; exact bel_box _ _
  have hg2s : w2.heap.size < W3.heap.size := by rw [← hW3]; simp only [World.alloc, Array.size_push]; omega
  rw [hW3]
  have HO3 := Lib.hid ho3
  have HB13 : Hid (Below w1.heap.size w1 W3) := HB2.out.trans (hb3.mono HB2.out.size)
  have LP := plane_load (HC1.out.below HB13.out HC1.out.lt)
  have HNR := Lib.hid (pl_near A n c ns en tp k 0 W3 ((HG1.out.below HB13.out).more HB13.out.size))
  obtain ⟨near, hnear⟩ : ∃ l, nearI ns k 0 = l := ⟨_, rfl⟩
  rw [hnear] at HNR
  have HNE := Lib.hid hnear
  have HG2 := Lib.hid hg2s
  clear hnear hw3 hW3 ho3 hb3 hg2s
  unfold pgL at LP HNR
  go_wp2_with (first
    | refine wpList_loadE LP _ rfl rfl rfl ?_
    | (go_at_call 16; (with_reducible refine HNR.out.mono ?_); rintro e w4 ⟨A5, m, c5, rfl, ho, hb⟩; have HO5 := Lib.hid (OwnI.mono ho HB13.out.size); have HNA : Hid (∀ b, A5 = some ⟨b, 0, none⟩ → W3.heap.size ≤ b) := (fun b e => by rcases ho.row with ⟨q1, _⟩ | ⟨g, q1, q2, _⟩; rw [q1] at e; cases e; rw [q1] at e; injection e with e; injection e with e _ _; subst e; exact q2); have HB4 := Lib.hid (HB13.out.trans (hb.mono HB13.out.size)); have HO4 : Hid (w4.ownsRow w1.heap.size 44 3 (.slice (some ⟨w2.heap.size, 0, none⟩) 1 1) 1 (flatS [x0])) := ownsRow_tch HO3.out (Tch.of_below hb : Tch (fun _ => False) _ _) (fun _ _ q => q); clear ho hb HNR))
  clear LP
  have HML : Hid (near.length = m) := HO5.out.len
  have HTH : Hid (∀ z ∈ near, ∃ i : Nat, z = i ∧ thN ns i = true) := fun z hz => thB_nat_iff.1 (near_thereG (by rw [HNE.out]; exact hz))
  have HMN : Hid (m ≤ n) := by
    show m ≤ n
    rw [← HML.out, ← HNL.out]
    exact Nat.le_trans (len_subG _ (liveI ns) (by rw [← HNE.out]; exact nodup_nearG ns _ _) fun x hx => mem_liveIG.2 (near_thereG (by rw [HNE.out]; exact hx))) (lvI_le ns _)
  have hmb : m ≤ 1048576 := Nat.le_trans HMN.out HNB.out
  go_loopw [24, 10] (fun i v wr => ∃ (t : Nat) (A7 : Option Addr) (c7 : Nat), t ≤ m ∧ i = .int .i64 (t : Nat) ∧ v = .slice A7 (t + 1) c7 ∧ Hid (wr.ownsRow w1.heap.size 44 3 (.slice A7 (t + 1) c7) (t + 1) (flatS (x0 :: (near.take t).map fun y => spN q ns y.toNat))) ∧ Hid (OwnI wr w1.heap.size A5 m c5 near) ∧ Hid (∀ b, A5 = some ⟨b, 0, none⟩ → A7 ≠ some ⟨b, 0, none⟩) ∧ Hid (Below w1.heap.size w1 wr)) (fun i _ _ => m - (intOf i).toNat)
  case atStart => exact ⟨0, some ⟨w2.heap.size, 0, none⟩, 1, Nat.zero_le _, rfl, rfl, HO4.out, HO5.out, (show ∀ b, A5 = some ⟨b, 0, none⟩ → (some ⟨w2.heap.size, 0, none⟩ : Option Addr) ≠ some ⟨b, 0, none⟩ from fun b e e2 => by
    have h1 := HNA.out b e
    have h2 := HG2.out
    injection e2 with e2; injection e2 with e2 _ _
    omega), HB4.out⟩
  case round =>
    clear HO4 HO5 HB4
    obtain ⟨t, A7, c7, ht, rfl, rfl, HO7, HO5, HNE7, HB⟩ := hrel
    by_cases hlt : t < m
    · obtain ⟨b2, o2, rfl, hb2, hc2⟩ := HO5.out.rd.atI hlt
      obtain ⟨z, hz⟩ : ∃ z, ig near t = z := ⟨_, rfl⟩
      rw [hz] at hc2
      have hlz : near[t]? = some z := by
        rw [← hz, ig, List.getD_eq_getElem?_getD, List.getElem?_eq_getElem (by rw [HML.out]; exact hlt)]
        rfl
      obtain ⟨i, rfl, hi⟩ := HTH.out z (List.mem_of_getElem? hlz)
      obtain ⟨x, hx⟩ : ∃ x, spN q ns i = x := ⟨_, rfl⟩
      have HX : Hid ((near.take (t + 1)).map (fun y => spN q ns y.toNat) = (near.take t).map (fun y => spN q ns y.toNat) ++ [x]) := by
        show _ = _
        rw [take_stepX hlz, List.map_append, ← hx]
        rfl
      have hsp := walk_spot A n c ns en tp q i wr ((HG1.out.below HB.out).more HB.out.size) ((HQ1.out.below HB.out).more HB.out.size) (by rw [← HNL.out]; exact thN_lt hi)
      rw [hx] at hsp
      have HSP := Lib.hid hsp
      have LP := plane_load (HC1.out.below HB.out HC1.out.lt)
      have HLT := Lib.hid hlt
      clear hz hlz hi hx hsp hb2
      unfold pgL at LP HSP
      unfold spV at HSP
      go_wp2_with (first
        | refine wpList_loadE LP _ rfl rfl rfl ?_
        | (go_at_call 14; (with_reducible refine HSP.out.mono ?_); rintro e w5 ⟨rfl, hb⟩; have HB5 := Lib.hid (HB.out.trans (hb.mono HB.out.size)); have HO8 : Hid (w5.ownsRow w1.heap.size 44 3 (.slice A7 (t + 1) c7) (t + 1) (flatS (x0 :: (near.take t).map fun y => spN q ns y.toNat))) := ownsRow_tch HO7.out (Tch.of_below hb : Tch (fun _ => False) _ _) (fun _ _ q => q); have HO6 : Hid (OwnI w5 w1.heap.size (some ⟨b2, o2, none⟩) m c5 near) := own_keep HO5.out hb; clear hb)
        | (at_builtin; refine wpList_push1 rfl (.tmp 28) (.tmp 33) 67 44 3 24 _ rfl Try.underlying67 info_spotK rfl (by decide) w5 w1.heap.size _ (t + 1) _ (spC x) rfl HO8.out rfl rfl (fun u hu => by rcases (by simpa [spC] using hu : u = _ ∨ u = _ ∨ u = _) with rfl | rfl | rfl <;> rfl) (by omega) (by decide) HB5.out.size ?_; intro g2 c4 W7 ho hgr hb hat; replace ho := Lib.hid ho; replace hgr := Lib.hid hgr; replace hb := Lib.hid hb; replace hat := Lib.hid hat))
      go_roundw
      case rel =>
        refine ⟨t + 1, some ⟨g2, 0, none⟩, c4, HLT.out, by go_num, rfl, ?_, ownsRow_tch HO6.out (grownBy_tch hgr.out) (apartI HO6.out HO8.out HNE7.out), ?_, HB5.out.trans hb.out⟩
        · show World.ownsRow _ _ _ _ _ _ _
          rw [HX.out]
          have h1 := ho.out
          rw [show flatS (x0 :: (near.take t).map fun y => spN q ns y.toNat) ++ (spC x).toList = flatS (x0 :: ((near.take t).map (fun y => spN q ns y.toNat) ++ [x])) by
            rw [← List.cons_append, flatS_appC]; rfl] at h1
          exact h1
        · show ∀ b, some (⟨b2, o2, none⟩ : Addr) = some ⟨b, 0, none⟩ → some (⟨g2, 0, none⟩ : Addr) ≠ some ⟨b, 0, none⟩
          intro b e e2
          injection e2 with e2; injection e2 with e2 _ _
          subst e2
          rcases hat.out with q1 | q1
          · have h1 := HNE7.out g2 e
            rcases HO8.out.2 with ⟨q2, _⟩ | ⟨g3, cap, cur, q2, _⟩
            · injection q2 with q2; rw [q2] at q1; cases q1
            · injection q2 with q2
              rw [q2] at q1
              injection q1 with q1
              have q3 : g3 = g2 := q1
              exact h1 (by rw [q2, q3])
          · have h2 : ∀ k, (Value.slice (some ⟨b2, o2, none⟩) m c5).ownBlock = some k → k < w5.heap.size := fun k hk => (HO6.out.lt k hk).2
            injection e with e; injection e with e _ _
            have := h2 b2 rfl
            omega
      case measure => have := HLT.out; simp [intOf]; omega
    · obtain rfl : t = m := by omega
      clear hlt ht
      have ho := HO7.out
      rw [List.take_of_length_le (by rw [HML.out]; exact Nat.le_refl _), ← HNE.out, ← HX0.out] at ho
      have hs := own_spAt (l := stepL q ns k) ho (by unfold stepL; rw [List.length_cons, List.length_map, HNE.out, HML.out])
      have hlea := rank_least A7 (t + 1) c7 (stepL q ns k) 1 wr hs.1 hs.2 (by omega)
      have HLE := Lib.hid hlea
      clear ho hs hlea
      have HSL : Hid (0 < (stepL q ns k).length) := Nat.succ_pos _
      have HSC : Hid (sortSp (stepL q ns k) ≠ []) := fun e => by
        have := sortSp_len (stepL q ns k)
        rw [e] at this
        have h2 := HSL.out
        rw [← this] at h2
        exact absurd h2 (Nat.lt_irrefl 0)
      go_upto_region 7 with fail
      go_wp2_with (go_at_call 38; (with_reducible refine HLE.out.mono ?_); rintro e w8 ⟨A8, n8, c8, rfl, hs, hb⟩; obtain ⟨x9, hx9⟩ : ∃ x, (sortSp (stepL q ns k))[0]? = some x := ⟨_, List.getElem?_eq_getElem (by rw [sortSp_len]; exact HSL.out)⟩; have hs1 : SpAt w8 w8.heap.size A8 n8 [x9] := (by have e1 : (sortSp (stepL q ns k)).take (min (max (1 : Int) 0) ((stepL q ns k).length : Int)).toNat = [x9] := (by rw [show (min (max (1 : Int) 0) ((stepL q ns k).length : Int)).toNat = 1 by have := HSL.out; omega, take_stepX hx9, List.take_zero]; rfl); rw [e1] at hs; exact hs); obtain rfl : 1 = n8 := hs1.len; obtain ⟨b9, o9, cs9, e9, _, hc9, _, hr9⟩ := Rs.at_ hs1 (show 0 < 1 by decide); subst e9; obtain rfl : cs9 = spL x9 := (by simpa using hc9.symm); obtain ⟨j9, hj9, rfl⟩ := step_of HK.out hx9; have z2 : w8.cell? ⟨b9, o9 + 2, none⟩ = some (.int .i64 ((j9 : Nat) : Int)) := (by have := hr9 2 (.int .i64 ((j9 : Nat) : Int)) rfl; simpa using this); have HJ9 := Lib.hid hj9; have HB8 := Lib.hid (HB.out.trans (hb.mono HB.out.size)); clear hs hb hx9 hs1 hc9 hr9 hj9)
      go_ret2
      have eb : (((j9 : Nat) : Int) != ((k : Nat) : Int)) = decide (j9 ≠ k) := by rw [Bool.eq_iff_iff]; simp; omega
      exact ⟨j9, by rw [← eb]; rfl, HJ9.out, HB1.out.trans (HB8.out.mono HB1.out.size)⟩
/-- A way downhill. -/
structure WayR (q : IS) (ns : List ND) (l : List Nat) : Prop where
  th : ∀ x ∈ l, thN ns x = true
  st : ∀ (i x y : Nat), l[i]? = some x → l[i + 1]? = some y → StepR q ns x y ∧ y ≠ x
theorem WayR.one {q : IS} {ns : List ND} {k : Nat} (hk : thN ns k = true) : WayR q ns [k] :=
  ⟨fun x hx => by obtain rfl : x = k := by simpa using hx
                  exact hk, fun i x y h1 h2 => by
    have := (List.getElem?_eq_some_iff.1 h2).1
    simp at this⟩
theorem WayR.more {q : IS} {ns : List ND} {l : List Nat} {z j : Nat} (h : WayR q ns (l ++ [z])) (hs : StepR q ns z j) (hne : j ≠ z) : WayR q ns ((l ++ [z]) ++ [j]) := by
  refine ⟨fun x hx => ?_, fun i x y h1 h2 => ?_⟩
  · rcases List.mem_append.1 hx with hx | hx
    · exact h.th x hx
    · obtain rfl : x = j := by simpa using hx
      exact hs.1
  · have hl2 := (List.getElem?_eq_some_iff.1 h2).1
    have hlen : ((l ++ [z]) ++ [j]).length = l.length + 2 := by simp
    rw [hlen] at hl2
    by_cases hi : i + 1 < l.length + 1
    · rw [List.getElem?_append_left (by simp; omega)] at h1 h2
      exact h.st i x y h1 h2
    · obtain rfl : i = l.length := by omega
      rw [List.getElem?_append_left (by simp), List.getElem?_append_right (Nat.le_refl _), Nat.sub_self] at h1
      rw [List.getElem?_append_right (by simp)] at h2
      simp at h1 h2
      subst h1 h2
      exact ⟨hs, hne⟩
def castL (l : List Nat) : List Int := l.map fun i : Nat => (i : Int)
theorem castL_snoc (l : List Nat) (j : Nat) : castL (l ++ [j]) = castL l ++ [((j : Nat) : Int)] := by unfold castL; rw [List.map_append]; rfl
set_option maxRecDepth 100000 in
set_option maxHeartbeats 8000000 in
theorem wk_level (A : Option Addr) (n c : Nat) (ns : List ND) (en tp : Int) (q : IS) (k : Nat) (w : World) (hg : PgAt w w.heap.size A n c ns) (hq : q.Vec w w.heap.size) (hk : thN ns k = true) :
    Calls Try.prog 13 #[.agg (pgL A n c en tp), q.v, .int .i64 ((k : Nat) : Int), .int .i64 0] w (fun e w' => ∃ (A' : Option Addr) (m c' : Nat) (l : List Nat) (z : Nat), e = .returned (.slice A' m c') ∧ OwnI w' w.heap.size A' m c' (castL (l ++ [z])) ∧ WayR q ns (l ++ [z]) ∧ (l ++ [z])[0]? = some k ∧ StepR q ns z z ∧ m ≤ n ∧ Below w.heap.size w w') := by
  obtain ⟨w1, hw1⟩ : ∃ x, w.alloc (.cells (pgL A n c en tp) 36) = x := ⟨_, rfl⟩
  obtain ⟨C1, b1⟩ := box_plane hw1
  have HG1 := Lib.hid ((hg.below b1).more b1.size)
  have HQ1 := Lib.hid ((hq.below b1).more b1.size)
  have HC1 := Lib.hid C1
  have HB1 := Lib.hid b1
  have HK := Lib.hid hk
  have HNL := Lib.hid hg.len
  have HNB := Lib.hid hg.2.1
  obtain ⟨w2, hw2⟩ : ∃ x, w1.alloc (.cells #[.int .i64 ((k : Nat) : Int)] 3) = x := ⟨_, rfl⟩
  have ho2 := own_oneI w1 ((k : Nat) : Int) w1.heap.size (Nat.le_refl _)
  rw [hw2] at ho2
  have hb2 : Below w1.heap.size w1 w2 := by rw [← hw2]; exact bel_box _ _
  have HO2 := Lib.hid ho2
  have HB2 := Lib.hid hb2
  have LP := plane_load (C1.below hb2 C1.lt)
  have HST : Hid (∀ (w' : World) (i : Nat), Below w1.heap.size w1 w' → thN ns i = true → Calls Try.prog 22 #[.agg #[.slice A n c, .int .i64 en, .int .i64 tp], q.v, .int .i64 ((i : Nat) : Int), .int .i64 0] w' (fun e w'' => ∃ (j : Nat) (b : Bool), e = .returned (.tuple #[.int .i64 ((j : Nat) : Int), .bool b]) ∧ b = decide (j ≠ i) ∧ StepR q ns i j ∧ Below w'.heap.size w' w'')) :=
    fun w' i hb hi => (wk_step A n c ns en tp q i w' ((HG1.out.below hb).more hb.size) ((HQ1.out.below hb).more hb.size) hi).mono fun _ _ ⟨j, h1, h2, h3⟩ => ⟨j, _, h1, rfl, h2, h3⟩
  have HAK : Hid (1 + aheadN q ns k ≤ n) := by
    show _ ≤ _
    have h1 : ((k : Nat) : Int) ∉ (liveI ns).filter fun y => ahB (spN q ns y.toNat) (spN q ns k) := fun hm => by
      have := (List.mem_filter.1 hm).2
      rw [Int.toNat_natCast, ahB_iff] at this
      omega
    have h2 := len_subG (((k : Nat) : Int) :: (liveI ns).filter fun y => ahB (spN q ns y.toNat) (spN q ns k)) (liveI ns) (List.nodup_cons.2 ⟨h1, (nodup_liveIG ns).filter _⟩) (fun x hx => by
      rcases List.mem_cons.1 hx with rfl | hx
      · exact mem_liveIG.2 (by rw [thB_nat]; exact hk)
      · exact (List.mem_filter.1 hx).1)
    have h3 := lvI_le ns ns.length
    rw [List.length_cons] at h2
    have h4 : (liveI ns).length ≤ ns.length := h3
    rw [hg.len] at h4
    unfold aheadN
    omega
  clear hg hq hk C1 b1 ho2 hb2
  unfold pgL at hw1 LP ⊢
  go_enter Try.func13, Try.ntmps13
  go_upto_region 1 with fail
  (try rw [hw1])
  clear hw1
  go_upto_region 2 with fail
  (try rw [hw2])
  clear hw2
  go_wp2_with (first
    | refine wpList_loadE LP _ rfl rfl rfl ?_
    | (go_at_call 22; (with_reducible refine (HST.out w2 k HB2.out HK.out).mono ?_); rintro e w3 ⟨j0, b0, rfl, hb0, hj0, hb⟩; have HB0 := Lib.hid hb0; have HJ0 := Lib.hid hj0; have HB3 := Lib.hid (HB2.out.trans (hb.mono HB2.out.size)); have HO3 : Hid (OwnI w3 w1.heap.size (some ⟨w1.heap.size, 0, none⟩) 1 1 [((k : Nat) : Int)]) := own_keep HO2.out hb; clear hb0 hj0 hb))
  clear LP
  go_loopw [9, 10, 11] (fun v9 v10 v11 wr => ∃ (A9 : Option Addr) (m c9 : Nat) (l : List Nat) (z j : Nat) (b : Bool), v9 = .slice A9 m c9 ∧ v10 = .int .i64 ((j : Nat) : Int) ∧ v11 = .bool b ∧ Hid (b = decide (j ≠ z)) ∧ Hid (OwnI wr w1.heap.size A9 m c9 (castL (l ++ [z]))) ∧ Hid (WayR q ns (l ++ [z])) ∧ Hid ((l ++ [z])[0]? = some k) ∧ Hid (StepR q ns z j) ∧ Hid (m + aheadN q ns z ≤ n) ∧ Hid (Below w1.heap.size w1 wr)) (fun _ v10 v11 _ => 2 * aheadN q ns (intOf v10).toNat + (match v11 with | .bool true => 1 | _ => 0))
  case atStart => exact ⟨some ⟨w1.heap.size, 0, none⟩, 1, 1, [], k, j0, b0, rfl, rfl, rfl, HB0.out, HO3.out, WayR.one HK.out, rfl, HJ0.out, HAK.out, HB3.out⟩
  case round =>
    clear HO3 HJ0 HB3 HB0
    obtain ⟨A9, m, c9, l, z, j, b, rfl, rfl, rfl, HBB, HO, HW, HF, HS, HA, HB⟩ := hrel
    cases b
    · have hjz : j = z := by
        have := HBB.out
        exact Decidable.byContradiction fun q => by rw [decide_eq_true q] at this; cases this
      subst hjz
      go_wp2_with fail
      go_ret
      exact ⟨A9, m, c9, l, j, rfl, OwnI.mono HO.out HB1.out.size, HW.out, HF.out, HS.out, by have := HA.out; omega, HB1.out.trans (HB.out.mono HB1.out.size)⟩
    · have hjz : j ≠ z := of_decide_eq_true HBB.out.symm
      have HAL := Lib.hid (aheadN_lt HS.out.1 (HS.out.ahead hjz))
      have HJZ := Lib.hid hjz
      have hmb : m ≤ 1048576 := by have h1 := HA.out; have h2 := HNB.out; omega
      go_upto_region 4 with (at_builtin; refine wpList_push rfl (.tmp 31) (.tmp 33) _ rfl w1.heap.size 3 .i64 8 (by decide) Try.underlying41 info_int wr A9 m c9 (castL (l ++ [z])) _ rfl HO.out rfl (by omega) HB.out.size ?_; intro g' c'' w4 ho4 hb4; have hb5 := Lib.hid (HB.out.trans hb4); replace ho4 := Lib.hid ho4; clear hb4)
      have LP := plane_load (HC1.out.below hb5.out HC1.out.lt)
      unfold pgL at LP
      go_wp2_with (first
        | refine wpList_loadE LP _ rfl rfl rfl ?_
        | (go_at_call 22; (refine (HST.out w4 j hb5.out HS.out.1).mono ?_); rintro e w5 ⟨j2, b2, rfl, hb2, hj2, hb⟩; have HJ2 := Lib.hid hj2; have HB2' := Lib.hid hb2; have HB6 := Lib.hid (hb5.out.trans (hb.mono hb5.out.size)); have HO6 : Hid (OwnI w5 w1.heap.size (some ⟨g', 0, none⟩) (m + 1) c'' (castL ((l ++ [z]) ++ [j]))) := (by show OwnI _ _ _ _ _ _; rw [castL_snoc]; exact own_keep ho4.out hb); clear hb2 hj2 hb))
      go_roundw
      case rel => exact ⟨some ⟨g', 0, none⟩, m + 1, c'', l ++ [z], j, j2, b2, rfl, rfl, rfl, HB2'.out, HO6.out, HW.out.more HS.out HJZ.out, by rw [List.getElem?_append_left (by simp)]; exact HF.out, HJ2.out, (show m + 1 + aheadN q ns j ≤ n by have h1 := HA.out; have h2 := HAL.out; omega), HB6.out⟩
      case measure =>
        have h4 := HB2'.out
        by_cases h2 : j2 = j
        · subst h2
          obtain rfl : b2 = false := by rw [h4]; simp
          simp [intOf]
        · have h3 := aheadN_lt HJ2.out.1 (HJ2.out.ahead h2)
          obtain rfl : b2 = true := by rw [h4]; simpa using h2
          simp [intOf]
          omega
end Go.Proofs.Ytpbjndjbpihfmaa
