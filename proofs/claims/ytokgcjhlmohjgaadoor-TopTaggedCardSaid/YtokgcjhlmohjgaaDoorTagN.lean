/- Names of a mask's bits, by the program and by the document. -/
import Derived.Test.YtokgcjhlmohjgaaDoorTagB
import Derived.Test.YtokgcjhlmohjgaaDoorBitS
namespace Go.Proofs.YtokgcjhlmohjgaaDoor
open Go.RowKit
theorem info_str : (Tryd.prog.info? 9).map (fun i => (i.zero, i.size, i.bytes)) = some (some (.string ⟨#[]⟩), 1, 16) := by kernel_rfl
/-- 'out = append(out, u)', u of one cell. -/
theorem wpList_pushV {P : Program} {ops : Array Oper} {rest : List Oper} {o : Oper} {a : Act} {Q : Exit → Act → World → Prop} (hgd : o.guard = none) (s x : Operand) (t : TypeId)
    (ho : o.op = .call { callee := .builtin .append, args := #[s, x], argTypes := #[t, t] })
    (base : Nat) (e : TypeId) (z : Value) (bytes : Nat) (hb8 : bytes ≤ 16) (hz0 : z.cells.size = 1) (ht : P.underlying t = some (.slice e)) (hinfo : (P.info? e).map (fun i => (i.zero, i.size, i.bytes)) = some (some z, 1, bytes))
    (wr : World) (A : Option Addr) (n c : Nat) (xs : List Value) (u : Value) (hu : u.oneCell' = true) (hs : a.eval s = .slice A n c) (hown : wr.ownsRow base e 1 (.slice A n c) n xs)
    (hx : a.eval x = .slice (some ⟨wr.heap.size, 0, none⟩) 1 1) (hn : n ≤ 1099511627776) (hbase : base ≤ wr.heap.size)
    (h : ∀ g c' w', w'.ownsRow base e 1 (.slice (some ⟨g, 0, none⟩) (n + 1) c') (n + 1) (xs ++ [u]) → Below base wr w' → wpList P ops Q rest (a.put o.dst (.slice (some ⟨g, 0, none⟩) (n + 1) c')) w') :
    wpList P ops Q (o :: rest) a (wr.alloc (.cells #[u] e)) := by
  obtain ⟨i, hi, hz, hz1, hz2⟩ := info_parts hinfo
  have hb2 : (n + 1) * bytes ≤ (n + 1) * 16 := Nat.mul_le_mul_left _ hb8
  refine wpList_append_lies (wr.alloc (.cells #[u] e)) hgd s x t ho base e i z 1 bytes ht hi hz hz1 hz2 hz0 (by omega) _ n xs hs (hown.alloc _) ⟨wr.heap.size, 0, none⟩ 1 1 [u] hx rfl
    (cell_one_new _ _ _) (by intro v hv; simp at hv; subst hv; exact hu) (by omega) (by unfold maxLen; omega) (by omega) (by simp; omega) _ rfl ?_
  intro g cap w' hown' hg hat hlt
  refine h g cap w' (by simpa using hown') ?_
  exact ((Below.refl base wr).alloc hbase _).grown hg (by simp; omega) fun k hk => (hown.lt k hk).1
/-- A text's value; the names of a mask; why there are none. -/
def sv (t : List Int) : Value := .string (strOfNums t)
def nmE (ts : List (List Int)) (m : Nat) : List (List Int) := (mb m).map fun i => tg ts i.toNat
def nmW (ts : List (List Int)) (m : Nat) : Int := if chkE ts = 0 then (if m / 2 ^ ts.length = 0 then 0 else 6) else chkE ts
def nmL (ts : List (List Int)) (m : Nat) : List (List Int) := if nmW ts m = 0 then nmE ts m else []
theorem nm_chk {ts : List (List Int)} {m : Nat} (h : chkE ts ≠ 0) : nmW ts m = chkE ts ∧ nmL ts m = [] := by
  have e : nmW ts m = chkE ts := by unfold nmW; rw [if_neg h]
  exact ⟨e, by unfold nmL; rw [e, if_neg h]⟩
theorem nm_range {ts : List (List Int)} {m : Nat} (h : chkE ts = 0) (h2 : m / 2 ^ ts.length ≠ 0) : nmW ts m = 6 ∧ nmL ts m = [] := by
  have e : nmW ts m = 6 := by unfold nmW; rw [if_pos h, if_neg h2]
  exact ⟨e, by unfold nmL; rw [e, if_neg (by decide)]⟩
theorem nm_ok {ts : List (List Int)} {m : Nat} (h : chkE ts = 0) (h2 : m / 2 ^ ts.length = 0) : nmW ts m = 0 ∧ nmL ts m = nmE ts m := by
  have e : nmW ts m = 0 := by unfold nmW; rw [if_pos h, if_pos h2]
  exact ⟨e, by unfold nmL; rw [e, if_pos rfl]⟩
theorem nmE_len (ts : List (List Int)) (m : Nat) : (nmE ts m).length = (mb m).length := by unfold nmE; simp
/-- What a call that makes a list of texts says, with an error. -/
def RetS (l : List (List Int)) (why : Int) (w : World) (e : Ending) (w' : World) : Prop :=
  (∃ A c, e = .returned (.tuple #[.slice A l.length c, .int .i64 why]) ∧ l.length ≤ c ∧ Rd w' w'.heap.size A l.length (l.map sv)) ∧ Below w.heap.size w w'
theorem RetS.nil_ {why : Int} {w w' : World} (hb : Below w.heap.size w w') : RetS [] why w (.returned (.tuple #[.slice none 0 0, .int .i64 why])) w' :=
  ⟨⟨none, 0, rfl, Nat.le_refl _, Rd.nil_⟩, hb⟩
theorem chk_zero {ts : List (List Int)} (h : chkE ts = 0) : ts.length ≤ 64 ∧ ts.all nameB = true ∧ ts.Nodup := by
  unfold chkE at h
  split at h
  · cases h
  · split at h
    · split at h
      · exact ⟨by omega, by assumption, by assumption⟩
      · cases h
    · cases h
theorem mb_at {m q : Nat} (hq : q < (mb m).length) : ∃ y : Nat, ig (mb m) q = y ∧ y < 64 ∧ m.testBit y = true := lst_bd hq
theorem hi_zero {m L : Nat} (hm : m < 18446744073709551616) : m / 2 ^ L = 0 ↔ ∀ q, q < (mb m).length → ig (mb m) q < L := by
  constructor
  · intro h q hq
    obtain ⟨y, e, _, hb⟩ := mb_at hq
    rw [e]
    have hlt : m < 2 ^ L := by
      rcases Nat.lt_or_ge m (2 ^ L) with g | g
      · exact g
      · have := (Nat.div_pos_iff (a := m) (b := 2 ^ L)).2 ⟨Nat.two_pow_pos L, g⟩
        omega
    rcases Nat.lt_or_ge y L with g | g
    · omega
    · have := Nat.testBit_lt_two_pow (x := m) (i := y) (Nat.lt_of_lt_of_le hlt (Nat.pow_le_pow_right (by decide) g))
      rw [this] at hb; cases hb
  · intro h
    rw [Nat.div_eq_zero_iff]
    right
    refine Nat.lt_pow_two_of_testBit _ fun i hi => ?_
    rcases Nat.lt_or_ge i 64 with g | g
    · cases hb : m.testBit i with
      | false => rfl
      | true =>
        obtain ⟨q, hq, e⟩ := lst_find (p := m.testBit) g hb
        have := h q hq
        unfold mb at this
        rw [e] at this
        omega
    · exact Nat.testBit_lt_two_pow (Nat.lt_of_lt_of_le hm (by rw [show 18446744073709551616 = 2 ^ 64 by rfl]; exact Nat.pow_le_pow_right (by decide) g))
theorem nm_take {ts : List (List Int)} {m j y : Nat} (hj : j < (mb m).length) (e : ig (mb m) j = y) : ((nmE ts m).take (j + 1)).map sv = ((nmE ts m).take j).map sv ++ [.string (strOfNums (tg ts y))] := by
  have hl : j < (nmE ts m).length := by rw [nmE_len]; exact hj
  rw [List.take_succ_eq_append_getElem hl, List.map_append]
  congr 1
  have h3 : (nmE ts m)[j]? = some (tg ts y) := by
    have h2 : (mb m)[j] = (y : Int) := by rw [← e]; simp [ig, List.getD_eq_getElem?_getD, hj]
    show ((mb m).map fun i => tg ts i.toNat)[j]? = _
    rw [List.getElem?_map, List.getElem?_eq_getElem hj, h2]; rfl
  rw [List.getElem?_eq_getElem hl] at h3
  injection h3 with h3
  rw [h3]; rfl
set_option maxRecDepth 100000 in
set_option maxHeartbeats 2000000 in
theorem tag_names (A : Option Addr) (n c : Nat) (ts : List (List Int)) (hall : ∀ t ∈ ts, Bytes t) (hsz : ∀ t ∈ ts, t.length ≤ 9223372036854775807) (m : Nat) (hm : m < 18446744073709551616) (w : World) (hr : Rd w w.heap.size A n (ts.map fun t => .string (strOfNums t))) (hT : Tz w) :
    Calls Tryd.prog 7 #[.slice A n c, .int .u64 m] w (RetS (nmL ts m) (nmW ts m) w) := by
  have hml : ts.length = n := by simpa using hr.1
  have hC := Lib.hid (tag_check A n c ts hall hsz w hr)
  have HR := Lib.hid hr
  have HL := Lib.hid hml
  have HT := Lib.hid hT
  have HM := Lib.hid hm
  obtain ⟨z, hz⟩ : ∃ z, chkE ts = z := ⟨_, rfl⟩
  rw [hz] at hC
  clear hr hml hT hm hall hsz
  by_cases h0 : z = 0
  · subst h0
    obtain ⟨x, hx⟩ : ∃ x, m / 2 ^ n = x := ⟨_, rfl⟩
    have hx' : (m : Int) / 2 ^ n = (x : Int) := by rw [← hx]; simp
    have hn64 : n ≤ 64 := by have := (chk_zero hz).1; have := HL.out; omega
    by_cases hx0 : x = 0
    · have t0 : ((x : Int) != 0) = false := by simp; exact hx0
      have HE := Lib.hid (nm_ok (m := m) hz (by rw [HL.out, hx]; exact hx0))
      have HI := Lib.hid ((hi_zero (L := n) HM.out).1 (by rw [hx]; exact hx0))
      clear hz hx hx0
      go_enter Tryd.func7, Tryd.ntmps7
      go_wp2_with fail
      refine hC.out.mono ?_
      rintro e w1 ⟨rfl, hb1⟩
      have HB1 := Lib.hid hb1
      have hbits := Lib.hid (tag_bits m HM.out w1 (HT.out.below hb1))
      clear hb1 hC
      go_wp2_with fail
      refine hbits.out.mono ?_
      rintro e w2 ⟨⟨Ab, cb, rfl, hcb, hrb⟩, hb2⟩
      have HB2 := Lib.hid (HB1.out.trans (hb2.mono HB1.out.size))
      have HRB := Lib.hid hrb
      obtain ⟨L, hL⟩ : ∃ L, (mb m).length = L := ⟨_, rfl⟩
      rw [hL] at HRB
      have HLL := Lib.hid hL
      have hL64 : L ≤ 64 := by rw [← hL]; exact mb_len m
      rw [hL]
      clear hb2 hrb hcb hbits hL
      go_wp2_with fail
      go_loopw [7, 23] (fun v i wr => ∃ (j : Nat) (B : Option Addr) (d : Nat), j ≤ L ∧ i = .int .i64 j ∧ v = .slice B j d ∧ Hid (wr.ownsRow w2.heap.size 9 1 (.slice B j d) j (((nmE ts m).take j).map sv)) ∧ Hid (Below w2.heap.size w2 wr)) (fun _ i _ => L - (intOf i).toNat)
      case atStart => exact ⟨0, none, 0, Nat.zero_le _, rfl, rfl, World.ownsRow_nil _ _ _ _, Below.refl _ _⟩
      case round =>
        obtain ⟨j, B, d, hj, rfl, rfl, hown, hb⟩ := hrel
        have hown' := hown.out
        have hszz := hb.out.size
        by_cases hlt : j < L
        · have hjl : j < (mb m).length := by have := HLL.out; omega
          obtain ⟨y, hy, hy64, _⟩ := mb_at hjl
          obtain ⟨b, o, rfl, hbl, hc1⟩ := (HRB.out.below hb.out).atI hlt
          rw [hy] at hc1
          have hyn : y < n := by have := HI.out j hjl; rw [hy] at this; omega
          obtain ⟨b', o', rfl, hbl', hc2⟩ := (HR.out.below (HB2.out.trans (hb.out.mono HB2.out.size))).atS hyn
          have htk := Lib.hid (nm_take (ts := ts) hjl hy)
          clear hy hbl hbl' hjl
          go_wp2_with (at_builtin; refine wpList_pushV rfl (.tmp 27) (.tmp 32) _ rfl w2.heap.size 9 _ 16 (by decide) rfl Tryd.underlying22 info_str wr B j d _ _ rfl rfl hown' rfl (by omega) hszz ?_; intro g' c' w' hown2 hb2)
          have HBB := Lib.hid (hb.out.trans hb2)
          have HO2 := Lib.hid hown2
          go_roundw
          case rel => exact ⟨j + 1, _, c', hlt, by go_num, rfl, (by show World.ownsRow _ _ _ _ _ _ _; rw [htk.out]; exact HO2.out), HBB⟩
          case measure => simp [intOf]; omega
        · obtain rfl : j = L := by omega
          have hl2 : (nmE ts m).take j = nmE ts m := List.take_of_length_le (by rw [nmE_len, HLL.out]; exact Nat.le_refl _)
          rw [hl2] at hown'
          have hcap := own_cap hown'
          have hrd := Lib.hid (Rd.of_own hown')
          have hlen : Hid ((nmE ts m).length = j) := by show _ = _; rw [nmE_len, HLL.out]
          clear hown' hl2 hszz
          go_wp2_with fail
          refine bodyPost_ret (v := .tuple #[.slice B j d, .int .i64 0]) (by simp [results, Tryd.results7, go_sem]) rfl ?_
          rw [HE.out.1, HE.out.2]
          have h1 := hrd.out
          rw [← hlen.out] at h1 hcap ⊢
          exact ⟨⟨B, d, rfl, hcap, h1⟩, HB2.out.trans (hb.out.mono HB2.out.size)⟩
    · have t0 : ((x : Int) != 0) = true := by simp; exact hx0
      have HE := Lib.hid (nm_range (m := m) hz (by rw [HL.out, hx]; exact hx0))
      clear hz hx hx0
      go_enter Tryd.func7, Tryd.ntmps7
      go_wp2_with fail
      refine hC.out.mono ?_
      rintro e w1 ⟨rfl, hb1⟩
      have HB1 := Lib.hid hb1
      clear hb1 hC
      go_wp2_with fail
      refine bodyPost_ret (v := .tuple #[.slice none 0 0, .int .i64 6]) (by simp [results, Tryd.results7, go_sem]) rfl ?_
      rw [HE.out.1, HE.out.2]
      exact RetS.nil_ HB1.out
  · have t0 : (z != 0) = true := bne_iff_ne.2 h0
    have HE := Lib.hid (nm_chk (ts := ts) (m := m) (by rw [hz]; exact h0))
    have HZ := Lib.hid hz
    clear hz h0
    go_enter Tryd.func7, Tryd.ntmps7
    go_wp2_with fail
    refine hC.out.mono ?_
    rintro e w1 ⟨rfl, hb1⟩
    have HB1 := Lib.hid hb1
    clear hb1 hC
    go_wp2_with fail
    refine bodyPost_ret (v := .tuple #[.slice none 0 0, .int .i64 z]) (by simp [results, Tryd.results7, go_sem]) rfl ?_
    rw [HE.out.1, HE.out.2, HZ.out]
    exact RetS.nil_ HB1.out
end Go.Proofs.YtokgcjhlmohjgaaDoor
