/- Scripts: a line's words and components, written. -/
import Derived.Test.YtillmlaoppibfaaDoorScN
import Derived.Test.YtillmlaoppibfaaDoorScW
import Derived.Test.YtillmlaoppibfaaDoorRow
namespace Go.Proofs.YtillmlaoppibfaaDoor
open Go.RowKit Go.Sort
theorem dec_len20 {u : Nat} (hu : u < 18446744073709551616) : (Lib.decDigits u).length ≤ 20 := by
  rw [Lib.decDigits_length]
  by_cases h : 1 ≤ u
  · have := Lib.numDigits_eq u h hu
    split at this <;> omega
  · have : u = 0 := by omega
    subst this
    have := Lib.decDigits_length 0
    rw [Lib.decDigits_one (by omega)] at this
    simp at this
    omega
theorem itoa_len21 {z : Int} (hz : -9223372036854775808 ≤ z ∧ z ≤ 9223372036854775807) : (Lib.itoa z).length ≤ 21 := by
  unfold Lib.itoa
  split
  · rw [List.length_cons]
    have := dec_len20 (u := z.natAbs) (by omega)
    omega
  · have := dec_len20 (u := z.toNat) (by omega)
    omega
theorem yieldsIf_convD {ops : Array Oper} {S : World → Prop} {o : Oper} {a : Act} {t t' : TypeId} {k k' : IntKind} {z z' : Int} (ht : Tryd.prog.underlying t = some (.int k)) (ht' : Tryd.prog.underlying t' = some (.int k')) (hr : k'.wrap z = z') (hw : Region.wanted o (yielded ops a.tmps) = true) (x : Operand) (ho : o.op = .convert t t' x) (hx : a.eval x = .int k z) : YieldsIf Tryd.prog ops S o (.int k' z') a := by
  refine .inl ⟨hw, fun w _ => ?_⟩
  unfold execOp
  simp only [ho, hx]
  simp [go_sem, ht, ht', hr]
/-- Numbers' words, each behind a blank. -/
def tailW : List Nat → List UInt8
  | [] => []
  | u :: us => 32 :: (Lib.decDigits u ++ tailW us)
theorem tailW_snoc : ∀ (us : List Nat) (u : Nat), tailW (us ++ [u]) = tailW us ++ ([32] ++ Lib.decDigits u)
  | [], u => by simp [tailW]
  | v :: us, u => by simp [tailW, tailW_snoc us u]
theorem tailW_len : ∀ (us : List Nat), (∀ u ∈ us, u < 18446744073709551616) → (tailW us).length ≤ 21 * us.length
  | [], _ => by simp [tailW]
  | u :: us, h => by
    have h1 := dec_len20 (h u (by simp))
    have h2 := tailW_len us (fun v hv => h v (by simp [hv]))
    simp [tailW]
    omega
def tailZ : List Int → List UInt8
  | [] => []
  | z :: zs => 32 :: (Lib.itoa z ++ tailZ zs)
theorem tailZ_snoc : ∀ (us : List Int) (u : Int), tailZ (us ++ [u]) = tailZ us ++ ([32] ++ Lib.itoa u)
  | [], u => by simp [tailZ]
  | v :: us, u => by simp [tailZ, tailZ_snoc us u]
theorem tailZ_len : ∀ (us : List Int), (∀ z ∈ us, -2147483648 ≤ z ∧ z ≤ 2147483647) → (tailZ us).length ≤ 22 * us.length
  | [], _ => by simp [tailZ]
  | u :: us, h => by
    have h0 := h u (by simp)
    have h1 := itoa_len21 (z := u) (by omega)
    have h2 := tailZ_len us (fun v hv => h v (by simp [hv]))
    simp [tailZ]
    omega
theorem lies_wr : (Tryd.prog.info? 45).map (·.size) = some 2 := by kernel_rfl
theorem BwF.env {B b : Nat} {w w' : World} (h : BwF B b w w') (he : Env w) (hB : 8 ≤ B) : Env w' := he.below h.1 hB
theorem takeD {α : Type} {l : List α} {k : Nat} {x : α} (h : l[k]? = some x) : l.take (k + 1) = l.take k ++ [x] := by
  rw [List.take_add_one, h]; rfl
set_option maxHeartbeats 8000000 in
set_option maxRecDepth 100000 in
/-- Words of a line. -/
theorem bw_word (B b g : Nat) (acc m : List UInt8) (us : List Nat) (n c : Nat) (hn : us.length = n) (w : World) (he : Env w) (hB8 : 8 ≤ B) (hBw : B ≤ w.heap.size) (h : BwS w B b acc) (hg : Blk w g 33 (us.map fun u : Nat => Value.int .u64 (u : Int)).toArray) (hgb : g ≠ b)
    (hu : ∀ u ∈ us, u < 18446744073709551616) (hlen : acc.length + m.length + 21 * n + 21 ≤ 140737488355328) (hn6 : n ≤ 1048576) :
    Calls Tryd.prog 9 #[.pointer (some ⟨b, 0, none⟩), .string (bsO m), .slice (some ⟨g, 0, none⟩) n c] w fun e w' => e = .returned (.tuple #[]) ∧ BwU w' B b (acc ++ m ++ tailW us) ∧ BwF B b w w' := by
  have HC := Lib.hid (bw_write B b acc m w h (by omega) hBw)
  have HE := Lib.hid he
  have HG := Lib.hid hg
  have HU := Lib.hid hu
  have HN := Lib.hid hn
  obtain ⟨M, hM⟩ : ∃ M, acc.length + m.length = M := ⟨_, rfl⟩
  have HM := Lib.hid hM
  rw [hM] at hlen
  obtain ⟨sm, hsm⟩ : ∃ s, bsO m = s := ⟨_, rfl⟩
  rw [hsm] at HC ⊢
  clear he hg hu hn h hM hsm
  go_enter Tryd.func9, Tryd.ntmps9
  go_wp2_with (go_at_call 19; refine HC.out.mono ?_)
  rintro e w1 ⟨rfl, h1, f1⟩
  have H1 := Lib.hid h1
  have F1 := Lib.hid f1
  clear h1 f1 HC
  go_wp2
  go_loopw [7, 15] (fun _ s15 wr => ∃ k : Nat, k ≤ n ∧ s15 = .int .i64 k ∧ Hid (BwU wr B b (acc ++ m ++ tailW (us.take k))) ∧ Hid (BwF B b w wr)) (fun _ s15 _ => n - (intOf s15).toNat)
  case atStart => exact ⟨0, Nat.zero_le _, rfl, by rw [List.take_zero, tailW, List.append_nil]; exact H1, F1⟩
  case round =>
    clear H1 F1
    obtain ⟨k, hk, rfl, HS, HF⟩ := hrel
    have hBr : B ≤ wr.heap.size := Nat.le_trans hBw HF.out.1.size
    rcases Nat.lt_or_ge k n with hlt | hge
    · obtain ⟨u, hux⟩ : ∃ x, us[k]? = some x := ⟨_, List.getElem?_eq_getElem (by rw [HN.out]; exact hlt)⟩
      have hgr := HF.out.blk HG.out hgb (by decide)
      have c0 : wr.cell? ⟨g, k, none⟩ = some (.int .u64 u) := by
        rw [hgr.cell]
        simp [hux]
      have HUL := Lib.hid (HU.out u (List.mem_of_getElem? hux))
      have htl : (acc ++ m ++ tailW (us.take k)).length ≤ M + 21 * k := by
        have h1 := tailW_len (us.take k) (fun v hv => HU.out v (List.mem_of_mem_take hv))
        rw [List.length_take] at h1
        rw [List.length_append, List.length_append, HM.out]
        have : min k us.length ≤ k := Nat.min_le_left ..
        omega
      have HB1 := Lib.hid (bw_byte B b _ 32 32 rfl wr HS.out.s (by omega) hBr)
      have HTL := Lib.hid htl
      have HTK := Lib.hid (takeD hux)
      have HBR := Lib.hid hBr
      clear hgr hux htl hBr
      go_wp2_with (go_at_call 20; refine HB1.out.mono ?_)
      rintro e w2 ⟨rfl, h2, f2⟩
      have HE2 := Lib.hid ((HF.out.trans f2).env HE.out hB8)
      have H2 := Lib.hid h2
      have F2 := Lib.hid (HF.out.trans f2)
      have HFU : Hid (∀ W, Below w2.heap.size w2 W → Calls Tryd.prog 21 #[.int .u64 u, .int .i64 10] W fun e w' => e = .returned (.string (bsO (Lib.decDigits u))) ∧ Below W.heap.size W w') := fun W hW => sc_utoa u HUL.out W (HE2.out.on hW)
      have HWS : Hid (∀ W, Below w2.heap.size w2 W → Calls Tryd.prog 19 #[.pointer (some ⟨b, 0, none⟩), .string (bsO (Lib.decDigits u))] W fun e w' => e = .returned (.tuple #[.int .i64 ((Lib.decDigits u).length : Nat), .nilIface]) ∧ BwU w' B b (acc ++ m ++ tailW (us.take (k + 1))) ∧ BwF B b w w') := fun W hW => by
        have hl2 := dec_len20 HUL.out
        have hB2 : B ≤ w2.heap.size := Nat.le_trans hBw F2.out.1.size
        refine (bw_write B b _ (Lib.decDigits u) W (H2.out.s.below hW) (by have := HTL.out; rw [List.length_append]; simp only [List.length_singleton]; omega) (Nat.le_trans hB2 hW.size)).mono ?_
        rintro e w' ⟨h1, h2, h3⟩
        refine ⟨h1, ?_, F2.out.trans ((BwF.of hB2 hW).trans h3)⟩
        rw [HTK.out, tailW_snoc]
        simpa [List.append_assoc] using h2
      clear h2 f2 HB1 c0
      go_wp2_with fail
      refine wp_region_held_drew (S := fun _ => True) (by kernel_rfl) trivial (fun hH => ?_)
      refine wpAnyH_take (i := 0) (v := .pointer (some ⟨b, 0, none⟩)) rfl (by kernel_rfl) (by kernel_rfl) (by kernel_rfl) (fun _ _ _ h => h) (.inl ⟨by rfl, fun _ _ => by kernel_rfl⟩) hH ?_
      (try simp only [List.getElem_toArray, List.getElem_cons_zero, Act.put, List.setIfInBounds_toArray, List.set_cons_zero, List.set_cons_succ])
      refine wpAnyH_take (i := 1) (v := .pointer (some ⟨b, 0, none⟩)) rfl (by kernel_rfl) (by kernel_rfl) (by kernel_rfl) (fun _ _ _ h => h) (.inl ⟨by rfl, fun _ _ => by kernel_rfl⟩) hH ?_
      (try simp only [List.getElem_toArray, List.getElem_cons_zero, List.getElem_cons_succ, Act.put, List.setIfInBounds_toArray, List.set_cons_zero, List.set_cons_succ])
      refine wpAnyH_take (i := 2) (v := .pointer (some ⟨b, 0, none⟩)) rfl (by kernel_rfl) (by kernel_rfl) (by kernel_rfl) (fun _ _ _ h => h) (.inl ⟨by rfl, fun _ _ => by kernel_rfl⟩) hH ?_
      (try simp only [List.getElem_toArray, List.getElem_cons_zero, List.getElem_cons_succ, Act.put, List.setIfInBounds_toArray, List.set_cons_zero, List.set_cons_succ])
      refine wpAnyH_take (i := 3) (v := .int .u64 u) rfl (by kernel_rfl) (by kernel_rfl) (by kernel_rfl) (fun _ _ _ h => h) (.inl ⟨by rfl, fun _ _ => by kernel_rfl⟩) hH ?_
      (try simp only [List.getElem_toArray, List.getElem_cons_zero, List.getElem_cons_succ, Act.put, List.setIfInBounds_toArray, List.set_cons_zero, List.set_cons_succ])
      refine wpAnyH_call 4 21 #[.int .u64 u, .int .i64 10] _ (by kernel_rfl) (by rfl) (by kernel_rfl) (by kernel_rfl) (HFU.out _ (below_drewN (Below.refl _ w2) 1)) ?_
      rintro e w3 ⟨rfl, hb3⟩
      have HB3 := Lib.hid ((below_drewN (Below.refl w2.heap.size w2) 1).trans hb3)
      clear hb3
      refine ⟨_, rfl, trivial, ?_⟩
      (try simp only [List.getElem_toArray, List.getElem_cons_zero, List.getElem_cons_succ, Act.put, List.setIfInBounds_toArray, List.set_cons_zero, List.set_cons_succ])
      refine wpAnyH_call 5 19 #[.pointer (some ⟨b, 0, none⟩), .string (bsO (Lib.decDigits u))] _ (by kernel_rfl) (by rfl) (by kernel_rfl) (by kernel_rfl) (HWS.out _ HB3.out) ?_
      rintro e w4 ⟨rfl, h4, f4⟩
      have H4 := Lib.hid h4
      have F4 := Lib.hid f4
      clear h4 f4
      refine ⟨_, rfl, trivial, ?_⟩
      (try simp only [List.getElem_toArray, List.getElem_cons_zero, List.getElem_cons_succ, Act.put, List.setIfInBounds_toArray, List.set_cons_zero, List.set_cons_succ])
      refine wpAnyH_done (by kernel_rfl) ?_ _
      go_wp2_with fail
      go_roundw
      case rel => exact ⟨k + 1, by omega, by go_num, H4, F4⟩
      case measure => simp [intOf]; omega
    · have hkn : k = n := by omega
      subst hkn
      have HS2 : Hid (BwU wr B b (acc ++ m ++ tailW us)) := by
        show BwU _ _ _ _
        have := HS.out
        rwa [List.take_of_length_le (by rw [HN.out]; exact Nat.le_refl _)] at this
      go_wp2
      go_end0
      exact ⟨rfl, HS2.out, HF.out⟩
set_option maxHeartbeats 8000000 in
set_option maxRecDepth 100000 in
/-- Components, and the line's end. -/
theorem bw_vector (B b : Nat) (acc : List UInt8) (zs : List Int) (A : Option Addr) (n c : Nat) (w : World) (he : Env w) (hB8 : 8 ≤ B) (hBw : B ≤ w.heap.size) (h : BwS w B b acc) (hr : Rd w B A n (zs.map (.int .i32)))
    (hz : ∀ z ∈ zs, -2147483648 ≤ z ∧ z ≤ 2147483647) (hlen : acc.length + 22 * n + 22 ≤ 140737488355328) (hn6 : n ≤ 4398046511104) :
    Calls Tryd.prog 10 #[.pointer (some ⟨b, 0, none⟩), .slice A n c] w fun e w' => e = .returned (.tuple #[]) ∧ BwU w' B b (acc ++ tailZ zs ++ [10]) ∧ BwF B b w w' := by
  have HE := Lib.hid he
  have HR := Lib.hid hr
  have HZ := Lib.hid hz
  have HN := Lib.hid hr.lenI
  have H1 := Lib.hid h
  have F1 := Lib.hid (BwF.refl B b w)
  clear he hr hz h
  go_enter Tryd.func10, Tryd.ntmps10
  go_wp2
  go_loopw [5, 8] (fun _ s8 wr => ∃ k : Nat, k ≤ n ∧ s8 = .int .i64 k ∧ Hid (BwS wr B b (acc ++ tailZ (zs.take k))) ∧ Hid (BwF B b w wr)) (fun _ s8 _ => n - (intOf s8).toNat)
  case atStart => exact ⟨0, Nat.zero_le _, rfl, by rw [List.take_zero, tailZ, List.append_nil]; exact H1, F1⟩
  case round =>
    clear H1 F1
    obtain ⟨k, hk, rfl, HS, HF⟩ := hrel
    have hBr : B ≤ wr.heap.size := Nat.le_trans hBw HF.out.1.size
    have htl : (acc ++ tailZ (zs.take k)).length ≤ acc.length + 22 * k := by
      have h1 := tailZ_len (zs.take k) (fun v hv => HZ.out v (List.mem_of_mem_take hv))
      rw [List.length_take] at h1
      rw [List.length_append]
      have : min k zs.length ≤ k := Nat.min_le_left ..
      omega
    rcases Nat.lt_or_ge k n with hlt | hge
    · obtain ⟨z, hux⟩ : ∃ x, zs[k]? = some x := ⟨_, List.getElem?_eq_getElem (by rw [HN.out]; exact hlt)⟩
      obtain ⟨g, o, rfl, hg, hc0⟩ := HR.out.atI hlt
      have c0 : wr.cell? ⟨g, o + k, none⟩ = some (.int .i32 z) := by
        have := (HF.out.1.cell (p := ⟨g, o + k, none⟩) hg).trans hc0
        rw [this, ig, List.getD_eq_getElem?_getD, hux]
        rfl
      have HUL := Lib.hid (HZ.out z (List.mem_of_getElem? hux))
      have HCV : Hid (IntKind.i64.wrap z = z) := by show _ = _; have := HUL.out; rw [IntKind.wrap_i64]; omega
      have HB1 := Lib.hid (bw_byte B b _ 32 32 rfl wr HS.out (by omega) hBr)
      have HTL := Lib.hid htl
      have HTK := Lib.hid (takeD hux)
      have HBR := Lib.hid hBr
      clear hux htl hBr hc0
      go_wp2_with (go_at_call 20; refine HB1.out.mono ?_)
      rintro e w2 ⟨rfl, h2, f2⟩
      have HE2 := Lib.hid ((HF.out.trans f2).env HE.out hB8)
      have H2 := Lib.hid h2
      have F2 := Lib.hid (HF.out.trans f2)
      have HFU : Hid (∀ W, Below w2.heap.size w2 W → Calls Tryd.prog 22 #[.int .i64 z, .int .i64 10] W fun e w' => e = .returned (.string (bsO (Lib.itoa z))) ∧ Below W.heap.size W w') := fun W hW => sc_itoa z (by have := HUL.out; omega) W (HE2.out.on hW)
      have HWS : Hid (∀ W, Below w2.heap.size w2 W → Calls Tryd.prog 19 #[.pointer (some ⟨b, 0, none⟩), .string (bsO (Lib.itoa z))] W fun e w' => e = .returned (.tuple #[.int .i64 ((Lib.itoa z).length : Nat), .nilIface]) ∧ BwS w' B b (acc ++ tailZ (zs.take (k + 1))) ∧ BwF B b w w') := fun W hW => by
        have hl2 := itoa_len21 (z := z) (by have := HUL.out; omega)
        have hB2 : B ≤ w2.heap.size := Nat.le_trans hBw F2.out.1.size
        refine (bw_write B b _ (Lib.itoa z) W (H2.out.s.below hW) (by have := HTL.out; rw [List.length_append]; simp only [List.length_singleton]; omega) (Nat.le_trans hB2 hW.size)).mono ?_
        rintro e w' ⟨h1, h2, h3⟩
        refine ⟨h1, ?_, F2.out.trans ((BwF.of hB2 hW).trans h3)⟩
        rw [HTK.out, tailZ_snoc]
        simpa [List.append_assoc] using h2.s
      clear h2 f2 HB1 c0
      go_wp2_with fail
      refine wp_region_held_drew (S := fun _ => True) (by kernel_rfl) trivial (fun hH => ?_)
      refine wpAnyH_take (i := 0) (v := .pointer (some ⟨b, 0, none⟩)) rfl (by kernel_rfl) (by kernel_rfl) (by kernel_rfl) (fun _ _ _ h => h) (.inl ⟨by rfl, fun _ _ => by kernel_rfl⟩) hH ?_
      (try simp only [List.getElem_toArray, List.getElem_cons_zero, Act.put, List.setIfInBounds_toArray, List.set_cons_zero, List.set_cons_succ])
      refine wpAnyH_take (i := 1) (v := .pointer (some ⟨b, 0, none⟩)) rfl (by kernel_rfl) (by kernel_rfl) (by kernel_rfl) (fun _ _ _ h => h) (.inl ⟨by rfl, fun _ _ => by kernel_rfl⟩) hH ?_
      (try simp only [List.getElem_toArray, List.getElem_cons_zero, List.getElem_cons_succ, Act.put, List.setIfInBounds_toArray, List.set_cons_zero, List.set_cons_succ])
      refine wpAnyH_take (i := 2) (v := .pointer (some ⟨b, 0, none⟩)) rfl (by kernel_rfl) (by kernel_rfl) (by kernel_rfl) (fun _ _ _ h => h) (.inl ⟨by rfl, fun _ _ => by kernel_rfl⟩) hH ?_
      (try simp only [List.getElem_toArray, List.getElem_cons_zero, List.getElem_cons_succ, Act.put, List.setIfInBounds_toArray, List.set_cons_zero, List.set_cons_succ])
      refine wpAnyH_take (i := 3) (v := .int .i32 z) rfl (by kernel_rfl) (by kernel_rfl) (by kernel_rfl) (fun _ _ _ h => h) (.inl ⟨by rfl, fun _ _ => by kernel_rfl⟩) hH ?_
      (try simp only [List.getElem_toArray, List.getElem_cons_zero, List.getElem_cons_succ, Act.put, List.setIfInBounds_toArray, List.set_cons_zero, List.set_cons_succ])
      refine wpAnyH_take (i := 4) (v := .int .i64 z) rfl (by kernel_rfl) (by kernel_rfl) (by kernel_rfl) (fun _ _ _ h => h) (yieldsIf_convD Tryd.underlying21 Tryd.underlying2 HCV.out (by rfl) _ rfl rfl) hH ?_
      (try simp only [List.getElem_toArray, List.getElem_cons_zero, List.getElem_cons_succ, Act.put, List.setIfInBounds_toArray, List.set_cons_zero, List.set_cons_succ])
      refine wpAnyH_call 5 22 #[.int .i64 z, .int .i64 10] _ (by kernel_rfl) (by rfl) (by kernel_rfl) (by kernel_rfl) (HFU.out _ (below_drewN (Below.refl _ w2) 1)) ?_
      rintro e w3 ⟨rfl, hb3⟩
      have HB3 := Lib.hid ((below_drewN (Below.refl w2.heap.size w2) 1).trans hb3)
      clear hb3
      refine ⟨_, rfl, trivial, ?_⟩
      (try simp only [List.getElem_toArray, List.getElem_cons_zero, List.getElem_cons_succ, Act.put, List.setIfInBounds_toArray, List.set_cons_zero, List.set_cons_succ])
      refine wpAnyH_call 6 19 #[.pointer (some ⟨b, 0, none⟩), .string (bsO (Lib.itoa z))] _ (by kernel_rfl) (by rfl) (by kernel_rfl) (by kernel_rfl) (HWS.out _ HB3.out) ?_
      rintro e w4 ⟨rfl, h4, f4⟩
      have H4 := Lib.hid h4
      have F4 := Lib.hid f4
      clear h4 f4
      refine ⟨_, rfl, trivial, ?_⟩
      (try simp only [List.getElem_toArray, List.getElem_cons_zero, List.getElem_cons_succ, Act.put, List.setIfInBounds_toArray, List.set_cons_zero, List.set_cons_succ])
      refine wpAnyH_done (by kernel_rfl) ?_ _
      go_wp2_with fail
      go_roundw
      case rel => exact ⟨k + 1, by omega, by go_num, H4, F4⟩
      case measure => simp [intOf]; omega
    · have hkn : k = n := by omega
      subst hkn
      have hS2 := HS.out
      rw [List.take_of_length_le (by rw [HN.out]; exact Nat.le_refl _)] at hS2 htl
      have HB1 := Lib.hid (bw_byte B b _ 10 10 rfl wr hS2 (by omega) hBr)
      have HF2 := Lib.hid HF.out
      clear hS2 htl hBr HS HF
      go_wp2_with (go_at_call 20; refine HB1.out.mono ?_)
      rintro e w2 ⟨rfl, h2, f2⟩
      have HX := Lib.hid (And.intro h2 (HF2.out.trans f2))
      clear h2 f2 HB1
      go_wp2
      go_end0
      exact ⟨rfl, HX.out⟩
end Go.Proofs.YtillmlaoppibfaaDoor
