/- choose.spots, Apart, Best. -/
import Derived.Test.YtpcbfoddlpgdjaaApC
import Derived.Laws.AppendOwnNone
namespace Go.Proofs.Ytpcbfoddlpgdjaa
open Go.RowKit
theorem OwC.below {w w' : World} {B n c : Nat} {A : Option Addr} {l : List Cd} (h : OwC w B A n c l) (hb : Below w.heap.size w w') : OwC w' B A n c l :=
  ⟨ownsRow_apS h.1 fun g hg => hb.block g (World.ownsRow.lt h.1 g hg).2, h.2⟩
theorem flatC_app2 (a b : List Cd) : flatC (a ++ b) = flatC a ++ flatC b := by unfold flatC; rw [List.map_append, List.flatten_append]
theorem flatC_one {l : List Cd} : ∀ u ∈ flatC l, u.oneCell' = true := by
  intro u hu
  obtain ⟨c, hc, hu⟩ := List.mem_flatten.1 hu
  obtain ⟨x, _, rfl⟩ := List.mem_map.1 hc
  exact cd_oneS x u hu
/-- 'append(x, y...)' of two rows of the call's own. -/
theorem wpList_appC {ops : Array Oper} {rest : List Oper} {o : Oper} {a : Act} {Q : Exit → Act → World → Prop} (hgd : o.guard = none) (s x : Operand)
    (ho : o.op = .call { callee := .builtin .append, args := #[s, x], argTypes := #[71, 71] })
    (wr : World) (B n1 c1 n2 c2 : Nat) (A1 A2 : Option Addr) (l1 l2 : List Cd) (h : PtC wr B A1 n1 c1 l1 A2 n2 c2 l2) (hs : a.eval s = .slice A1 n1 c1) (hx : a.eval x = .slice A2 n2 c2) (hn1 : n1 ≤ 1048576) (hn2 : n2 ≤ 1048576) (hB : B ≤ wr.heap.size)
    (k : ∀ A' c' w', OwC w' B A' (n1 + n2) c' (l1 ++ l2) → Below B wr w' → B ≤ w'.heap.size → wpList Try.prog ops Q rest (a.put o.dst (.slice A' (n1 + n2) c')) w') :
    wpList Try.prog ops Q (o :: rest) a wr := by
  obtain ⟨i, hi, hz, hz1, hz2⟩ := info_parts info_cdS
  rcases h.o2.1.2 with ⟨e, e0⟩ | ⟨g, cap, cur, e, hg, hh, h1, h2, h3, h4⟩
  · injection e with e1 e2 e3
    subst e1 e2 e3
    have el : l2 = [] := List.eq_nil_of_length_eq_zero h.o2.2
    subst el
    refine wpList_append_own_none hgd s x 71 ho B 90 i 4 Try.underlying71 hi (.slice A1 n1 c1) n1 (flatC l1) hs h.o1.1 hx ?_
    exact k A1 c1 wr (by rw [List.append_nil]; exact h.o1) (Below.refl _ _) hB
  · injection e with e1 e2 e3
    subst e1 e3
    have hcell : ∀ j u, (flatC l2)[j]? = some u → wr.cell? ((⟨g, 0, none⟩ : Addr).add j) = some u := fun j u hu => by
      rw [Addr.add_lit, Nat.zero_add]
      have hb : Blk wr g 90 cur := hh
      rw [hb.cell]
      have hj : j < (flatC l2).length := (List.getElem?_eq_some_iff.1 hu).1
      have hl : (flatC l2).length = n2 * 4 := by rw [flatC_len, h.o2.2]
      have ht := h4
      rw [← hu, ← ht, Array.getElem?_toList.symm, List.getElem?_take, if_pos (by omega)]
    refine wpList_append_own wr hgd s x 71 ho B 90 i _ 4 48 Try.underlying71 hi hz hz1 hz2 rfl (by decide) (.slice A1 n1 c1) n1 (flatC l1) hs h.o1.1 ⟨g, 0, none⟩ n2 c2 (flatC l2) hx (by rw [flatC_len, h.o2.2]) hcell flatC_one (by unfold maxLen; omega) (by omega) hB ?_
    intro v' w' hown hgr hnn
    rw [← flatC_app2] at hown
    have hbl : Below B wr w' := (Below.refl B wr).grown hgr hB (fun k hk => (World.ownsRow.lt h.o1.1 k hk).1)
    rcases hown.2 with ⟨e, e0⟩ | ⟨g', cap', cur', e, _⟩
    · subst e
      have : n1 + n2 = 0 := e0
      have hn : n1 = 0 ∧ n2 = 0 := by omega
      have := k none 0 w' ⟨by rw [show n1 + n2 = 0 by omega] at hown ⊢; exact hown, by rw [List.length_append, h.o1.2, h.o2.2]⟩ hbl (Nat.le_trans hB hbl.size)
      rw [show n1 + n2 = 0 by omega] at this
      exact this
    · subst e
      exact k _ _ w' ⟨hown, by rw [List.length_append, h.o1.2, h.o2.2]⟩ hbl (Nat.le_trans hB hbl.size)
/-- Spots that are told. -/
def RetSp (l : List Sp) (w : World) (e : Ending) (w' : World) : Prop := ∃ A c, e = .returned (.slice A l.length c) ∧ w'.ownsRow w.heap.size 35 3 (.slice A l.length c) l.length (flatS l) ∧ Below w.heap.size w w'
theorem flatS_oneD (l : List Sp) (x : Sp) : flatS (l ++ [x]) = flatS l ++ (spC x).toList := by rw [flatS_appC]; simp [flatS, spL, spC]
set_option maxRecDepth 100000 in
set_option maxHeartbeats 8000000 in
theorem ch_spotsS (A : Option Addr) (n c : Nat) (l : List Cd) (most : Int) (K B : Nat) (w : World) (h : OwC w B A n c l) (hn : n ≤ 80) (hK : (K : Int) = min (max most 0) (n : Int)) :
    Calls Try.prog 42 #[.slice A n c, .int .i64 most] w (RetSp ((l.take K).map Cd.sp) w) := by
  have HO := Lib.hid h
  have hln := h.2
  have hKn : K ≤ n := by omega
  have hKl : ((l.take K).map Cd.sp).length = K := by simp; omega
  have hnc : n ≤ c := by
    rcases h.1.2 with ⟨e, e0⟩ | ⟨g, cap, cur, e, _, _, h1, _⟩
    · injection e with _ e2 e3; omega
    · injection e with _ _ e3; omega
  have s1 : ∀ W, (Instr.slice 71 (.slice A n c) none (some (.int .i64 (min (max most 0) (n : Int)))) none).run Try.prog W = .ok (.slice A K c) W := fun W => by
    rw [← hK]
    have he : Try.prog.underlying 71 = some (.slice (Try.prog.elem 71)) := by unfold Program.elem; rw [Try.underlying71]
    rw [run_slice_h W 71 A n c he .i64 (K : Nat) (by omega) (by omega), szCd]
    simp only [Result.andThen, sliced, Int.toNat_natCast, Nat.zero_mul, Nat.sub_zero]
    congr 1
    split
    · rfl
    · cases A <;> simp [Addr.add]
  have HKL := Lib.hid hKl
  have HLN := Lib.hid hln
  obtain ⟨i, hi, hz, hz1, hz2⟩ := info_parts info_spotK
  clear h hln hK hKl hnc
  go_enter Try.func42, Try.ntmps42
  go_wp2_with fail
  clear s1
  go_loopw [5, 7, 16] (fun s5 _ s16 wr => ∃ (k : Nat) (A5 : Option Addr) (c5 : Nat), k ≤ K ∧ s16 = .int .i64 k ∧ s5 = .slice A5 k c5 ∧ Hid (wr.ownsRow w.heap.size 35 3 (.slice A5 k c5) k (flatS ((l.take k).map Cd.sp))) ∧ Hid (Below w.heap.size w wr)) (fun _ _ s16 _ => K - (intOf s16).toNat)
  case atStart => exact ⟨0, none, 0, Nat.zero_le _, rfl, rfl, World.ownsRow_nil _ _ _ _, Below.refl _ _⟩
  case round =>
    obtain ⟨k, A5, c5, hk, rfl, rfl, HS, HB⟩ := hrel
    by_cases hlt : k < K
    · have hkl : k < l.length := by rw [HLN.out]; omega
      obtain ⟨x, hx⟩ : ∃ x, l[k]? = some x := ⟨_, List.getElem?_eq_getElem hkl⟩
      obtain ⟨g1, rfl, hg1, LX⟩ := (HO.out.below HB.out).load (show k < n by omega) hx
      have HTK : Hid ((l.take (k + 1)).map Cd.sp = (l.take k).map Cd.sp ++ [x.sp]) := by
        show _ = _
        rw [List.take_add_one, hx]; simp
      have kx := Blk.new wr 90 x.cells
      have b3 := bel_box wr (.cells x.cells 90)
      obtain ⟨xb, hxb⟩ : ∃ xb, wr.heap.size = xb := ⟨_, rfl⟩
      obtain ⟨W3, hW3⟩ : ∃ W3, wr.alloc (.cells x.cells 90) = W3 := ⟨_, rfl⟩
      rw [hW3] at kx b3
      rw [hxb] at kx
      have LS := cd_spotS kx
      have HB3 : Hid (Below w.heap.size w W3) := HB.out.trans (b3.mono HB.out.size)
      have HS3 := Lib.hid (ownsRow_apS (w' := W3) HS.out fun g hg => b3.block g (World.ownsRow.lt HS.out g hg).2)
      have hb3s := HB3.out.size
      unfold Cd.cells IS.v at LX hW3
      unfold spV at LS
      have HXB := Lib.hid hxb
      have HW3 := Lib.hid hW3
      have HO5 := HO
      clear hx hkl kx b3 hxb hW3 HS HB hg1
      go_upto_region 5 with (first | refine wpList_loadE LX _ rfl rfl rfl ?_)
      clear LX
      rw [HW3.out]
      (try rw [HXB.out])
      clear HW3
      go_wp2_with (first
        | refine wpList_loadE LS _ rfl rfl rfl ?_
        | (at_builtin; refine wpList_push1 rfl (.tmp 20) (.tmp 23) 25 35 3 24 _ rfl Try.underlying25 info_spotK rfl (by decide) W3 w.heap.size (.slice A5 k c5) k (flatS ((l.take k).map Cd.sp)) #[.int .u64 x.sp.d, .int .u64 x.sp.id, .int .i64 x.sp.s] rfl HS3.out rfl rfl (by simp [Value.oneCell']) (by omega) (by decide) hb3s ?_; intro g2 c4 W7 ho hgr hbb hat; have HS7 : Hid (W7.ownsRow w.heap.size 35 3 (.slice (some ⟨g2, 0, none⟩) (k + 1) c4) (k + 1) (flatS ((l.take (k + 1)).map Cd.sp))) := (by show World.ownsRow _ _ _ _ _ _ _; rw [HTK.out, flatS_oneD]; exact ho); have HB7 : Hid (Below w.heap.size w W7) := HB3.out.trans hbb; clear ho hgr hbb hat))
      clear LS
      go_roundw
      case rel => exact ⟨k + 1, some ⟨g2, 0, none⟩, c4, by omega, by go_num, rfl, HS7, HB7⟩
      case measure => simp [intOf]; omega
    · obtain rfl : k = K := by omega
      have HF : Hid (RetSp ((l.take k).map Cd.sp) w (.returned (.slice A5 k c5)) wr) := ⟨A5, c5, by rw [HKL.out], by rw [HKL.out]; exact HS.out, HB.out⟩
      go_wp2_with fail
      go_ret
      exact HF.out
theorem own_base {w : World} {B B' e sz n : Nat} {v : Value} {xs : List Value} (h : w.ownsRow B e sz v n xs) (hB : B' ≤ B) : w.ownsRow B' e sz v n xs := by
  refine ⟨h.1, ?_⟩
  rcases h.2 with h2 | ⟨g, cap, cur, e1, e2, e3⟩
  · exact .inl h2
  · exact .inr ⟨g, cap, cur, e1, Nat.le_trans hB e2, e3⟩
/-- Spots of those that are apart. -/
def apL (f : Nat → Cd) (n : Nat) : List Sp := (partK f n).1.map Cd.sp
set_option maxRecDepth 100000 in
set_option maxHeartbeats 4000000 in
theorem ch_apartS (A : Option Addr) (n c : Nat) (L : List Sp) (A2 : Option Addr) (c2 : Nat) (its : List ItX) (w : World) (hs : SpAt w w.heap.size A n L) (hI : Its w w.heap.size A2 n its) (hn : n ≤ 40) :
    Calls Try.prog 23 #[.slice A n c, .slice A2 n c2] w fun e w' => ∃ f', (asL f' n).Perm (asL (cdF L its) n) ∧ Srt (leC ltC) f' 0 n ∧ RetSp (apL f' n) w e w' := by
  have HP := Lib.hid (ch_partS A n c L A2 c2 its w hs hI hn)
  clear hs hI
  go_enter Try.func23, Try.ntmps23
  go_upto_region 2 with (go_at_call 41; (with_reducible refine HP.out.mono ?_); rintro e w1 ⟨f, k1, k2, A1, n1, c1, B2, n2, c2, B, rfl, k3, k4, k5, k6⟩; have K1 := Lib.hid k1; have K2 := Lib.hid k2; have K3 := Lib.hid k3; have K4 := Lib.hid k4; have K5 := Lib.hid k5; have K6 := Lib.hid k6; clear k1 k2 k3 k4 k5 k6)
  have hl := K5.out.o1.2
  have hle : n1 ≤ 40 := by
    have := part_len (asL f n) ([], [])
    rw [asL_len] at this
    have e : (partK f n).1.length ≤ n := by unfold partK; simp at this; omega
    omega
  have HSP := Lib.hid (ch_spotsS A1 n1 c1 (partK f n).1 (n1 : Nat) n1 B w1 K5.out.o1 (by omega) (by omega))
  rw [← hl, List.take_length, hl] at HSP
  obtain ⟨ls, hls⟩ : ∃ ls, (partK f n).1.map Cd.sp = ls := ⟨_, rfl⟩
  rw [hls] at HSP
  have HLS : Hid (apL f n = ls) := hls
  clear hl HP hls
  go_wp2_with (go_at_call 42; (with_reducible refine HSP.out.mono ?_); rintro e w2 ⟨A3, c3, rfl, k1, k2⟩; have HF : Hid (RetSp ls w (.returned (.slice A3 ls.length c3)) w2) := ⟨A3, c3, rfl, own_base k1 K6.out.size, K6.out.trans (k2.mono K6.out.size)⟩; clear k1 k2)
  go_ret
  exact ⟨f, K1.out, K2.out, by rw [HLS.out]; exact HF.out⟩
/-- The best: those that are apart, then the others. -/
def beL (f : Nat → Cd) (n K : Nat) : List Sp := (((partK f n).1 ++ (partK f n).2).take K).map Cd.sp
set_option maxRecDepth 100000 in
set_option maxHeartbeats 4000000 in
theorem ch_bestS (A : Option Addr) (n c : Nat) (L : List Sp) (A2 : Option Addr) (c2 : Nat) (its : List ItX) (most : Int) (K : Nat) (w : World) (hs : SpAt w w.heap.size A n L) (hI : Its w w.heap.size A2 n its) (hn : n ≤ 40) (hK : (K : Int) = min (max most 0) (n : Int)) :
    Calls Try.prog 24 #[.slice A n c, .slice A2 n c2, .int .i64 most] w fun e w' => ∃ f', (asL f' n).Perm (asL (cdF L its) n) ∧ Srt (leC ltC) f' 0 n ∧ RetSp (beL f' n K) w e w' := by
  have HP := Lib.hid (ch_partS A n c L A2 c2 its w hs hI hn)
  have HK := Lib.hid hK
  clear hs hI hK
  go_enter Try.func24, Try.ntmps24
  go_upto_region 2 with (go_at_call 41; (with_reducible refine HP.out.mono ?_); rintro e w1 ⟨f, k1, k2, A1, n1, c1, B2, n2, c2, B, rfl, k3, k4, k5, k6⟩; have K1 := Lib.hid k1; have K2 := Lib.hid k2; have K3 := Lib.hid k3; have K4 := Lib.hid k4; have K5 := Lib.hid k5; have K6 := Lib.hid k6; clear k1 k2 k3 k4 k5 k6)
  have hsum : n1 + n2 = n := by
    have := part_len (asL f n) ([], [])
    rw [asL_len] at this
    have e1 := K5.out.o1.2
    have e2 := K5.out.o2.2
    have e3 : (partK f n).1.length + (partK f n).2.length = n := by unfold partK; simpa using this
    omega
  obtain ⟨ls, hls⟩ : ∃ ls, beL f n K = ls := ⟨_, rfl⟩
  have HLS := Lib.hid hls
  have HSP : Hid (∀ A' c' W, OwC W B A' (n1 + n2) c' ((partK f n).1 ++ (partK f n).2) → Calls Try.prog 42 #[.slice A' (n1 + n2) c', .int .i64 most] W (RetSp ls W)) := by
    rw [← hls]
    exact (fun A' c' W (h : OwC W B A' (n1 + n2) c' ((partK f n).1 ++ (partK f n).2)) => ch_spotsS A' (n1 + n2) c' ((partK f n).1 ++ (partK f n).2) most K B W h (by omega) (by rw [hsum]; exact HK.out))
  have hb1 : n1 ≤ 40 := by omega
  have hb2 : n2 ≤ 40 := by omega
  clear hls hsum
  go_wp2_with (first
    | (at_builtin; refine wpList_appC rfl (.tmp 15) (.tmp 16) rfl w1 B n1 c1 n2 c2 A1 B2 (partK f n).1 (partK f n).2 K5.out rfl rfl (by omega) (by omega) K4.out ?_; intro A' c' w2 ho hbl hB2; have HB2 : Hid (Below w.heap.size w w2) := K6.out.trans (hbl.mono K3.out); have HSQ := Lib.hid (HSP.out A' c' w2 ho); clear ho hbl hB2)
    | (go_at_call 42; (with_reducible refine HSQ.out.mono ?_); rintro e w3 ⟨A3, c3, rfl, k1, k2⟩; have HF : Hid (RetSp ls w (.returned (.slice A3 ls.length c3)) w3) := ⟨A3, c3, rfl, own_base k1 HB2.out.size, HB2.out.trans (k2.mono HB2.out.size)⟩; clear k1 k2))
  go_ret
  exact ⟨f, K1.out, K2.out, by rw [HLS.out]; exact HF.out⟩
end Go.Proofs.Ytpcbfoddlpgdjaa
