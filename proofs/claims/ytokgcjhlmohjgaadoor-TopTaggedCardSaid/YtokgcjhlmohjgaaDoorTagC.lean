/- Tables of tags: Check. -/
import Derived.Test.YtokgcjhlmohjgaaDoorTagP
import Derived.Maps.Own
import Derived.Maps.OwnOps
import Derived.Maps.OwnSet
import Derived.Deep.WholeRow
import Derived.StringKeys
namespace Go.Proofs.YtokgcjhlmohjgaaDoor
open Go.RowKit Go.Maps Go.ChangeMaps Go.MapKept
/-- What a table's check tells. -/
def chkE (ts : List (List Int)) : Int := if 64 < ts.length then 9 else if ts.all nameB then (if ts.Nodup then 0 else 10) else 7
/-- A text as a map's key. -/
def kL (t : List Int) : Lit := .string (strOfNums t).data.toList
theorem kL_inj {t u : List Int} (ht : Bytes t) (hu : Bytes u) (h : kL t = kL u) : t = u := by
  refine str_inj ht hu ?_
  unfold kL at h
  injection h with h
  have : (strOfNums t).data = (strOfNums u).data := Array.toList_inj.1 h
  cases hs : strOfNums t; cases hs' : strOfNums u
  rw [hs, hs'] at this
  simp at this
  rw [this]
/-- The map of those seen. -/
structure Seen (D : DataW Unit) (ts : List (List Int)) (j : Nat) : Prop where
  tidy : Tidy D
  has_ : ∀ t, Bytes t → has D (kL t) = decide (t ∈ ts.take j)
  cnt : ∀ t, Bytes t → ∃ c : Int, D.atKey (kL t) (.lit (.int .i64 0)) = .lit (.int .i64 c) ∧ 0 ≤ c ∧ c ≤ j
  size1 : Maps.size D ≤ j
  size2 : Maps.size D = j ↔ (ts.take j).Nodup
theorem Seen.zero (ts : List (List Int)) : Seen (.map []) ts 0 := by
  refine ⟨tidy_empty, fun t _ => ?_, fun t _ => ⟨0, rfl, by decide, by decide⟩, Nat.le_refl _, ?_⟩
  · simp [has]
  · simp [Maps.size]
theorem Seen.step {D : DataW Unit} {ts : List (List Int)} {j : Nat} (h : Seen D ts j) (hall : ∀ t ∈ ts, Bytes t) (hj : j < ts.length) (c : Int) (hc : D.atKey (kL (tg ts j)) (.lit (.int .i64 0)) = .lit (.int .i64 c)) :
    0 ≤ c ∧ c ≤ j ∧ Seen (D.put (kL (tg ts j)) (.lit (.int .i64 (c + 1)))) ts (j + 1) := by
  have hb := hall _ (tg_mem hj)
  obtain ⟨c', hc', h0, h1⟩ := h.cnt _ hb
  have e : c = c' := by rw [hc] at hc'; injection hc' with hc'; injection hc'
  subst e
  have hkey : WideAt.IsKeyLit (kL (tg ts j)) := trivial
  have ht := take_tg hj
  have hnd : (ts.take (j + 1)).Nodup ↔ (ts.take j).Nodup ∧ tg ts j ∉ ts.take j := by
    rw [ht, List.nodup_append]
    simp
    intro _
    exact ⟨fun b hm => b _ hm rfl, fun b x hx e => b (e ▸ hx)⟩
  have hsz := size_put (k := kL (tg ts j)) h.tidy (.lit (.int .i64 (c + 1)))
  rw [h.has_ _ hb] at hsz
  have hs1 := h.size1
  have hs2 := h.size2
  refine ⟨h0, h1, h.tidy.put hkey _, fun t htb => ?_, fun t htb => ?_, ?_, ?_⟩
  · by_cases e : t = tg ts j
    · subst e
      rw [has_put_same h.tidy.isMap hkey, ht]
      simp
    · rw [has_put_other (fun q => e (kL_inj htb hb q)), h.has_ t htb, ht]
      simp [e]
  · by_cases e : t = tg ts j
    · subst e
      exact ⟨c + 1, atKey_put_same h.tidy.isMap hkey _ _, by omega, by omega⟩
    · obtain ⟨d, hd, h2, h3⟩ := h.cnt t htb
      exact ⟨d, by rw [atKey_put_other (fun q => e (kL_inj htb hb q))]; exact hd, h2, by omega⟩
  · by_cases e : tg ts j ∈ ts.take j
    · rw [decide_eq_true e, if_pos rfl] at hsz; omega
    · rw [decide_eq_false e, if_neg (by decide)] at hsz; omega
  · rw [hnd]
    by_cases e : tg ts j ∈ ts.take j
    · rw [decide_eq_true e, if_pos rfl] at hsz
      constructor
      · intro q; omega
      · rintro ⟨_, q⟩; exact absurd e q
    · rw [decide_eq_false e, if_neg (by decide)] at hsz
      constructor
      · intro q; exact ⟨hs2.1 (by omega), e⟩
      · rintro ⟨q, _⟩; have := hs2.2 q; omega
theorem lawS : Keyed Tryd.prog 9 := string_keyed Tryd.underlying9
theorem zeroI : ∀ w, (zeroValue 3).run Tryd.prog w = .ok (.int .i64 0) w := by
  have h : (Tryd.prog.info? 3).map (fun i => (i.zero, i.size)) = some (some (.int .i64 0), 1) := by kernel_rfl
  exact (zero_of_info h).1
theorem ownsMap_at {w w' : World} {b n : Nat} {D : DataW Unit} (h : w.ownsMap Tryd.prog 9 (plainElem Tryd.prog 3) b n D) (hb : w'.heap[b]? = w.heap[b]?) : w'.ownsMap Tryd.prog 9 (plainElem Tryd.prog 3) b n D := by
  obtain ⟨es, clock, h1, h2⟩ := h
  exact ⟨es, clock, hb.trans h1, h2⟩
theorem turned_below {w w' : World} {b base : Nat} (h : w.mapTurned w' b) (hb : base ≤ b) : Below base w w' := by
  have hg := h.grown
  exact ⟨hg.os, hg.tape, hg.output, hg.size, fun k hk => hg.block k (by
    obtain ⟨es, cl, _, _, h1, _⟩ := h
    have := (Array.getElem?_eq_some_iff.1 h1).1
    omega) (by simp; omega)⟩
set_option maxRecDepth 100000 in
set_option maxHeartbeats 2000000 in
theorem tag_check (A : Option Addr) (m c : Nat) (ts : List (List Int)) (hall : ∀ t ∈ ts, Bytes t) (hsz : ∀ t ∈ ts, t.length ≤ 9223372036854775807) (w : World) (hr : Rd w w.heap.size A m (ts.map fun t => .string (strOfNums t))) :
    Calls Tryd.prog 13 #[.slice A m c] w fun e w' => e = .returned (.int .i64 (chkE ts)) ∧ Below w.heap.size w w' := by
  have hml : ts.length = m := by simpa using hr.1
  by_cases h64 : 64 < m
  · have t1 : decide ((m : Int) > 64) = true := by simp; omega
    have HE : Hid (chkE ts = 9) := by show _ = _; unfold chkE; rw [if_pos (by omega)]
    clear hr hml h64
    go_enter Tryd.func13, Tryd.ntmps13
    go_wp2_with fail
    go_ret
    exact ⟨by rw [HE.out]; rfl, Below.refl _ _⟩
  · have t1 : decide ((m : Int) > 64) = false := by simp; omega
    have hm64 : m ≤ 64 := by omega
    have HR := Lib.hid hr
    have HA := Lib.hid hall
    have HZ := Lib.hid hsz
    have HL := Lib.hid hml
    have hmm := fun w => run_makeMap (P := Tryd.prog) 50 w
    have hB0 : Below w.heap.size w (w.alloc (.map #[] 0)) := (Below.refl _ w).alloc (Nat.le_refl _) _
    have HM0 := Lib.hid (World.ownsMap_made w Tryd.prog 9 (plainElem (H := Unit) Tryd.prog 3))
    have HB0 := Lib.hid hB0
    clear hr hall hsz hml h64 hB0
    go_enter Tryd.func13, Tryd.ntmps13
    go_wp2_with fail
    go_loopw [12] (fun v wr => ∃ (j : Nat) (D : DataW Unit), j ≤ m ∧ v = .int .i64 j ∧ Hid (wr.ownsMap Tryd.prog 9 (plainElem Tryd.prog 3) w.heap.size j D ∧ Seen D ts j ∧ (∀ q, q < j → nameB (tg ts q) = true) ∧ Below w.heap.size w wr)) (fun v _ => m - (intOf v).toNat)
    case atStart => exact ⟨0, .map [], Nat.zero_le _, rfl, HM0.out, Seen.zero ts, (fun q hq => absurd hq (by omega)), HB0.out⟩
    case round =>
      clear HM0 HB0
      obtain ⟨j, D, hj, rfl, H⟩ := hrel
      by_cases hlt : j < m
      · have hjl : j < ts.length := by have := HL.out; omega
        obtain ⟨b, o, rfl, hbl, hc1⟩ := (HR.out.below H.out.2.2.2).atS hlt
        have htm := tg_mem hjl
        have hby := HA.out _ htm
        have hN := Lib.hid (tag_named (tg ts j) hby (HZ.out _ htm) wr)
        cases hq : nameB (tg ts j) with
        | false =>
          rw [hq] at hN
          have HE : Hid (chkE ts = 7) := by
            show _ = _
            have hf : ts.all nameB = false := by
              rw [Bool.eq_false_iff]
              intro e
              have := List.all_eq_true.1 e _ htm
              rw [hq] at this
              cases this
            unfold chkE
            rw [if_neg (by have := HL.out; omega), hf]; rfl
          clear hq hby htm
          go_wp2_with fail
          refine hN.out.mono ?_
          rintro e w2 ⟨rfl, hb2⟩
          go_wp2_with fail
          go_ret
          exact ⟨by rw [HE.out]; rfl, H.out.2.2.2.trans (hb2.mono H.out.2.2.2.size)⟩
        | true =>
          rw [hq] at hN
          have hlen : (strOfNums (tg ts j)).size ≤ maxLen := by
            rw [strOfNums_size]
            have : (tg ts j).length ≤ 32 := by unfold nameB at hq; simp at hq; exact hq.2
            unfold maxLen; omega
          have hkey : keyOf Tryd.prog 9 (.string (strOfNums (tg ts j))) = some (kL (tg ts j)) := Go.WideMaps.keyOf_string_mk Tryd.underlying9 hlen
          have HQ := Lib.hid hq
          clear hq hby htm hlen
          go_wp2_with fail
          refine hN.out.mono ?_
          rintro e w2 ⟨rfl, hb2⟩
          have hM2 := Lib.hid (ownsMap_at H.out.1 (hb2.block _ H.out.1.lt))
          have HB2 := Lib.hid (H.out.2.2.2.trans (hb2.mono H.out.2.2.2.size))
          clear hb2 hN
          go_wp2_with (first
            | (at_lookup; refine wpList_lookup_own_int _ rfl (.tmp 19) (.tmp 20) 50 rfl 9 3 .i64 lawS Tryd.underlying50 Tryd.underlying3 (zeroI _) w.heap.size j D rfl hM2.out (.string (strOfNums (tg ts j))) (kL (tg ts j)) rfl hkey ?_; intro cc hat hwc; obtain ⟨s0, s1, s2⟩ := H.out.2.1.step HA.out hjl cc hat; have HS := Lib.hid s2; have hv := plainElem_int (H := Unit) (P := Tryd.prog) Tryd.underlying3 (show (Lit.int .i64 (cc + 1)).wf = true by simp [Lit.wf, IntKind.min, IntKind.max, IntKind.signed, IntKind.bits]; omega); clear hat hwc s2)
            | (at_mapUpdate; refine wpList_mapUpdate_in _ rfl (.tmp 19) (.tmp 20) (.tmp 22) 50 rfl 9 3 lawS Tryd.underlying50 (plainElem Tryd.prog 3) w.heap.size j D rfl hM2.out (by unfold maxLen; omega) (.string (strOfNums (tg ts j))) (.int .i64 (cc + 1)) (kL (tg ts j)) rfl rfl hkey (.lit (.int .i64 (cc + 1))) [] hv ?_; intro w3 ho3 ht3; have HB3 := Lib.hid (HB2.out.trans (turned_below ht3 (Nat.le_refl _))); replace ho3 := Lib.hid ho3; clear ht3))
          go_roundw
          case rel => exact ⟨j + 1, _, hlt, by go_num, ho3.out, HS.out, fun q hq => (by
            by_cases e : q = j
            · rw [e]; exact HQ.out
            · exact H.out.2.2.1 q (by omega)), HB3.out⟩
          case measure => simp [intOf]; omega
      · obtain rfl : j = m := by omega
        have hl := HL.out
        have hall : ts.all nameB = true := List.all_eq_true.2 fun t ht => by
          obtain ⟨q, hq, rfl⟩ := List.getElem_of_mem ht
          have := H.out.2.2.1 q (by omega)
          simpa [tg, List.getD_eq_getElem?_getD, hq] using this
        have h1 := H.out.2.1.size1
        have h2 := H.out.2.1.size2
        rw [List.take_of_length_le (by omega)] at h2
        obtain ⟨z, hz⟩ : ∃ z, Maps.size D = z := ⟨_, rfl⟩
        rw [hz] at h1 h2
        have HZZ := Lib.hid hz
        by_cases hd : ts.Nodup
        · have HE : Hid (chkE ts = 0) := by show _ = _; unfold chkE; rw [if_neg (by omega), hall, if_pos rfl, if_pos hd]
          obtain rfl : z = j := h2.2 hd
          clear hz h1 h2 hl hall hd
          go_wp2_with (at_len; refine wpList_len_own _ rfl (.tmp 24) 50 rfl 9 3 Tryd.underlying50 (plainElem Tryd.prog 3) w.heap.size _ D rfl H.out.1 ?_; rw [HZZ.out])
          go_ret
          exact ⟨by rw [HE.out]; rfl, H.out.2.2.2⟩
        · have HE : Hid (chkE ts = 10) := by show _ = _; unfold chkE; rw [if_neg (by omega), hall, if_pos rfl, if_neg hd]
          have hzj : z < j := by
            rcases Nat.lt_or_ge z j with q | q
            · exact q
            · exact absurd (h2.1 (by omega)) hd
          have hzt : decide ((z : Int) < (j : Int)) = true := by simp; omega
          clear hz h1 h2 hl hall hd
          go_wp2_with (at_len; refine wpList_len_own _ rfl (.tmp 24) 50 rfl 9 3 Tryd.underlying50 (plainElem Tryd.prog 3) w.heap.size _ D rfl H.out.1 ?_; rw [HZZ.out])
          go_ret
          exact ⟨by rw [HE.out]; rfl, H.out.2.2.2⟩
end Go.Proofs.YtokgcjhlmohjgaaDoor
