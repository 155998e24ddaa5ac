/- Counts: CountTells, walked. Printed by genCtV.py. -/
import Derived.Test.YtkhnnjeinpojkaaCtM
import Derived.Test.YtkhnnjeinpojkaaPmS
namespace Go.Proofs.Ytkhnnjeinpojkaa
open Go.RowKit Go.Maps Go.ChangeMaps Go.MapKept
theorem fold_len {f : List Int → Int → List Int} (h : ∀ a x, (f a x).length = a.length) : ∀ (l : List Int) (a : List Int), (l.foldl f a).length = a.length
  | [], _ => rfl
  | x :: l, a => by rw [List.foldl_cons, fold_len h l, h]
theorem lvls_len (ns : List ND) : (lvlsI ns).length = 8 := by
  unfold lvlsI
  rw [fold_len (fun a x => by unfold lvlF bumpL; split <;> simp)]
  rfl
theorem dgs_len (ns : List ND) (level most : Int) : (dgsI ns level most).length ≤ 4097 := by
  unfold dgsI
  split
  · simp
  · rw [fold_len (fun a x => by unfold dgsF; simp), List.length_replicate]; omega
theorem alone_len (ns : List ND) (level : Int) : (aloneI ns level).length ≤ ns.length := Nat.le_trans (List.length_filter_le _ _) (highI_le ns level)
set_option maxRecDepth 100000 in
set_option maxHeartbeats 4000000 in
theorem tells42 (A : Option Addr) (n c : Nat) (ns : List ND) (en tp slot level most : Int) (w : World) (hg : PgRaw w w.heap.size A n c ns) :
    Calls Try.prog 7 #[.agg (pgL A n c en tp), .int .i64 slot, .int .i64 level, .int .i64 most] w (RetB true w) := by
  obtain ⟨w1, hw1⟩ : ∃ x, w.alloc (.cells (pgL A n c en tp) 56) = x := ⟨_, rfl⟩
  obtain ⟨C1, b1⟩ := box_plane hw1
  have HR1 := (hg.below b1).more b1.size
  have LP := plane_load C1
  have HSM := small12 A n c ns en tp w1 HR1
  have HB := Lib.hid b1
  have HC1 := Lib.hid C1
  have HR := Lib.hid HR1
  obtain ⟨sm, hsm⟩ : ∃ sm, smB ns = sm := ⟨_, rfl⟩
  rw [hsm] at HSM
  have HSB := Lib.hid hsm
  clear hg C1 b1 HR1 hsm
  unfold pgL at hw1 LP HSM ⊢
  replace HSM := Lib.hid HSM
  go_enter Try.func7, Try.ntmps7
  go_upto_region 1 with fail
  (try rw [hw1])
  clear hw1
  cases sm with
  | false =>
    go_wp2_with (first
      | ((with_reducible refine wpList_loadE (op := ⟨some 13, _, _, _, _, _⟩) LP ?leX ?leG ?leO ?leE ?_); (case leO => exact rfl); (case leE => exact rfl); (case leG => exact rfl))
      | (go_at_call 20; (with_reducible refine HSM.out.mono ?_); rintro e w2 ⟨rfl, b2⟩; have HB2 := Lib.hid (HB.out.trans (b2.mono HB.out.size)); have HLV := Lib.hid (lives42 w2); clear b2)
      | (go_at_call 38; (with_reducible refine HLV.out.mono ?_); rintro e w3 ⟨rfl, b3⟩; have HB3 := Lib.hid (HB2.out.trans (b3.mono HB2.out.size)); clear b3))
    go_ret
    exact ⟨rfl, HB3.out⟩
  | true =>
    obtain ⟨⟨wa, wb⟩, hwid⟩ : ∃ p, widI ns level = p := ⟨_, rfl⟩
    have HWP : Hid (∀ X, PgAt X X.heap.size A n c ns → Calls Try.prog 39 #[.agg #[.slice A n c, .int .i64 en, .int .i64 tp], .int .i64 level] X (fun e w' => e = .returned (.tuple #[.int .i64 wa, .int .i64 wb]) ∧ Below X.heap.size X w')) := fun X hX => by
      have h1 := pl_widest A n c ns en tp level X hX; rw [hwid] at h1; exact h1
    have HWR : Hid (∀ X, PgAt X X.heap.size A n c ns → Calls Try.prog 40 #[.agg #[.slice A n c, .int .i64 en, .int .i64 tp], .int .i64 level] X (fun e w' => e = .returned (.tuple #[.int .i64 wa, .int .i64 wb]) ∧ Below X.heap.size X w')) := fun X hX => by
      have h1 := rf_widest A n c ns en tp level X hX; rw [hwid] at h1; exact h1
    clear hwid
    go_upto_region 3 with (first
      | ((with_reducible refine wpList_loadE (op := ⟨some 13, _, _, _, _, _⟩) LP ?lfX ?lfG ?lfO ?lfE ?_); (case lfO => exact rfl); (case lfE => exact rfl); (case lfG => exact rfl))
      | (go_at_call 20; (with_reducible refine HSM.out.mono ?_); rintro e w2 ⟨rfl, b2⟩; have HB2 := Lib.hid (HB.out.trans (b2.mono HB.out.size)); have HG := Lib.hid ((HR.out.at_ HSB.out).on b2 b2.size); have HC := Lib.hid (HC1.out.below b2 HC1.out.lt); clear b2))
    have HCP := Lib.hid (HWP.out w2 HG.out)
    have LP2 := plane_load HC.out
    unfold pgL at LP2
    clear LP HSM HR HSB HWP
    go_upto_region 4 with (first
      | ((with_reducible refine wpList_loadE (op := ⟨some 18, _, _, _, _, _⟩) LP2 ?lgX ?lgG ?lgO ?lgE ?_); (case lgO => exact rfl); (case lgE => exact rfl); (case lgG => exact rfl))
      | (go_at_call 39; (with_reducible refine HCP.out.mono ?_); rintro e w3 ⟨rfl, b3⟩; have HB3 := Lib.hid (HB2.out.trans (b3.mono HB2.out.size)); have HG3 := Lib.hid (HG.out.on b3 b3.size); have HC3 := Lib.hid (HC.out.below b3 HC.out.lt); clear b3))
    have HCR := Lib.hid (HWR.out w3 HG3.out)
    have LP3 := plane_load HC3.out
    unfold pgL at LP3
    clear LP2 HCP HWR HG HC HB2
    go_upto_region 5 with (first
      | ((with_reducible refine wpList_loadE (op := ⟨some 24, _, _, _, _, _⟩) LP3 ?lhX ?lhG ?lhO ?lhE ?_); (case lhO => exact rfl); (case lhE => exact rfl); (case lhG => exact rfl))
      | (go_at_call 40; (with_reducible refine HCR.out.mono ?_); rintro e w4 ⟨rfl, b4⟩; have HB4 := Lib.hid (HB3.out.trans (b4.mono HB3.out.size)); have HG4 := Lib.hid (HG3.out.on b4 b4.size); have HC4 := Lib.hid (HC3.out.below b4 HC3.out.lt); clear b4))
    have HN := HG4.out.2.1
    have HLD : Hid ((dgsI ns level most).length ≤ 4097) := dgs_len ns level most
    have HLA : Hid ((aloneI ns level).length ≤ 1048576) := by show _ ≤ _; have h1 := alone_len ns level; have h2 := HG4.out.len; omega
    clear LP3 HCR HG3 HC3 HB3
    refine wp_region_held_drew (S := fun w' => Below w4.heap.size w4 w') (by kernel_rfl) (below_drewN (Below.refl _ w4) 1) (fun hH => ?_)
    refine wpAnyH_call 0 38 #[] _ (by kernel_rfl) (by rfl) (by kernel_rfl) (by kernel_rfl) (lives42 _) ?_
    rintro e Z1 ⟨rfl, bz⟩
    have h1 : Below w4.heap.size w4 Z1 := hH.trans (bz.mono hH.size)
    clear bz
    refine ⟨_, rfl, h1, ?_⟩
    clear hH
    (try simp only [List.getElem_toArray, List.getElem_cons_zero, Act.put, List.setIfInBounds_toArray, List.set_cons_zero, List.set_cons_succ])
    refine wpAnyH_take (i := 1) (v := .bool true) rfl (by kernel_rfl) (by kernel_rfl) (by kernel_rfl) (fun _ _ _ h => h) (.inl ⟨by rfl, fun _ _ => by kernel_rfl⟩) h1 ?_
    (try simp only [List.getElem_toArray, List.getElem_cons_zero, List.getElem_cons_succ, Act.put, List.setIfInBounds_toArray, List.set_cons_zero, List.set_cons_succ])
    refine wpAnyH_take (i := 2) (v := .agg (pgL A n c en tp)) rfl (by kernel_rfl) (by kernel_rfl) (by kernel_rfl) (fun _ _ _ h => h) (yieldsIf_loadP (by rfl) _ rfl rfl (fun _ q => plane_load (HC4.out.below q HC4.out.lt))) h1 ?_
    (try simp only [List.getElem_toArray, List.getElem_cons_zero, List.getElem_cons_succ, Act.put, List.setIfInBounds_toArray, List.set_cons_zero, List.set_cons_succ])
    refine wpAnyH_take (i := 4) (v := .agg (pgL A n c en tp)) rfl (by kernel_rfl) (by kernel_rfl) (by kernel_rfl) (fun _ _ _ h => h) (yieldsIf_loadP (by rfl) _ rfl rfl (fun _ q => plane_load (HC4.out.below q HC4.out.lt))) h1 ?_
    (try simp only [List.getElem_toArray, List.getElem_cons_zero, List.getElem_cons_succ, Act.put, List.setIfInBounds_toArray, List.set_cons_zero, List.set_cons_succ])
    refine wpAnyH_call 3 41 #[.agg (pgL A n c en tp)] _ (by kernel_rfl) (by rfl) (by kernel_rfl) (by kernel_rfl) (pl_levels A n c ns en tp _ (HG4.out.on h1 h1.size)) ?_
    rintro e Z2 ⟨rfl, bz⟩
    have h2 : Below w4.heap.size w4 Z2 := h1.trans (bz.mono h1.size)
    clear bz
    refine ⟨_, rfl, h2, ?_⟩
    clear h1
    (try simp only [List.getElem_toArray, List.getElem_cons_zero, List.getElem_cons_succ, Act.put, List.setIfInBounds_toArray, List.set_cons_zero, List.set_cons_succ])
    refine wpAnyH_call 5 42 #[.agg (pgL A n c en tp)] _ (by kernel_rfl) (by rfl) (by kernel_rfl) (by kernel_rfl) (rf_levels A n c ns en tp _ (HG4.out.on h2 h2.size)) ?_
    rintro e Z3 ⟨rfl, bz⟩
    have h3 : Below w4.heap.size w4 Z3 := h2.trans (bz.mono h2.size)
    clear bz
    refine ⟨_, rfl, h3, ?_⟩
    clear h2
    (try simp only [List.getElem_toArray, List.getElem_cons_zero, List.getElem_cons_succ, Act.put, List.setIfInBounds_toArray, List.set_cons_zero, List.set_cons_succ])
    refine wpAnyH_take (i := 6) (v := .bool true) rfl (by kernel_rfl) (by kernel_rfl) (by kernel_rfl) (fun _ _ _ h => h) (yieldsIf_eq8 (lvls_len ns) (by rfl) _ _ rfl rfl rfl) h3 ?_
    (try simp only [List.getElem_toArray, List.getElem_cons_zero, List.getElem_cons_succ, Act.put, List.setIfInBounds_toArray, List.set_cons_zero, List.set_cons_succ])
    refine wpAnyH_take (i := 7) (v := .bool true) rfl (by kernel_rfl) (by kernel_rfl) (by kernel_rfl) (fun _ _ _ h => h) (.inl ⟨by rfl, fun _ _ => by kernel_rfl⟩) h3 ?_
    (try simp only [List.getElem_toArray, List.getElem_cons_zero, List.getElem_cons_succ, Act.put, List.setIfInBounds_toArray, List.set_cons_zero, List.set_cons_succ])
    refine wpAnyH_take (i := 8) (v := .bool true) rfl (by kernel_rfl) (by kernel_rfl) (by kernel_rfl) (fun _ _ _ h => h) (.inl ⟨by rfl, fun _ _ => by kernel_rfl⟩) h3 ?_
    (try simp only [List.getElem_toArray, List.getElem_cons_zero, List.getElem_cons_succ, Act.put, List.setIfInBounds_toArray, List.set_cons_zero, List.set_cons_succ])
    refine wpAnyH_take (i := 9) (v := .agg (pgL A n c en tp)) rfl (by kernel_rfl) (by kernel_rfl) (by kernel_rfl) (fun _ _ _ h => h) (yieldsIf_loadP (by rfl) _ rfl rfl (fun _ q => plane_load (HC4.out.below q HC4.out.lt))) h3 ?_
    (try simp only [List.getElem_toArray, List.getElem_cons_zero, List.getElem_cons_succ, Act.put, List.setIfInBounds_toArray, List.set_cons_zero, List.set_cons_succ])
    refine wpAnyH_take (i := 10) (v := .int .i64 slot) rfl (by kernel_rfl) (by kernel_rfl) (by kernel_rfl) (fun _ _ _ h => h) (.inl ⟨by rfl, fun _ _ => by kernel_rfl⟩) h3 ?_
    (try simp only [List.getElem_toArray, List.getElem_cons_zero, List.getElem_cons_succ, Act.put, List.setIfInBounds_toArray, List.set_cons_zero, List.set_cons_succ])
    refine wpAnyH_take (i := 11) (v := .int .i64 level) rfl (by kernel_rfl) (by kernel_rfl) (by kernel_rfl) (fun _ _ _ h => h) (.inl ⟨by rfl, fun _ _ => by kernel_rfl⟩) h3 ?_
    (try simp only [List.getElem_toArray, List.getElem_cons_zero, List.getElem_cons_succ, Act.put, List.setIfInBounds_toArray, List.set_cons_zero, List.set_cons_succ])
    refine wpAnyH_take (i := 13) (v := .agg (pgL A n c en tp)) rfl (by kernel_rfl) (by kernel_rfl) (by kernel_rfl) (fun _ _ _ h => h) (yieldsIf_loadP (by rfl) _ rfl rfl (fun _ q => plane_load (HC4.out.below q HC4.out.lt))) h3 ?_
    (try simp only [List.getElem_toArray, List.getElem_cons_zero, List.getElem_cons_succ, Act.put, List.setIfInBounds_toArray, List.set_cons_zero, List.set_cons_succ])
    refine wpAnyH_take (i := 14) (v := .int .i64 slot) rfl (by kernel_rfl) (by kernel_rfl) (by kernel_rfl) (fun _ _ _ h => h) (.inl ⟨by rfl, fun _ _ => by kernel_rfl⟩) h3 ?_
    (try simp only [List.getElem_toArray, List.getElem_cons_zero, List.getElem_cons_succ, Act.put, List.setIfInBounds_toArray, List.set_cons_zero, List.set_cons_succ])
    refine wpAnyH_take (i := 15) (v := .int .i64 level) rfl (by kernel_rfl) (by kernel_rfl) (by kernel_rfl) (fun _ _ _ h => h) (.inl ⟨by rfl, fun _ _ => by kernel_rfl⟩) h3 ?_
    (try simp only [List.getElem_toArray, List.getElem_cons_zero, List.getElem_cons_succ, Act.put, List.setIfInBounds_toArray, List.set_cons_zero, List.set_cons_succ])
    refine wpAnyH_call 12 43 #[.agg (pgL A n c en tp), .int .i64 slot, .int .i64 level] _ (by kernel_rfl) (by rfl) (by kernel_rfl) (by kernel_rfl) (pl_degree A n c ns en tp slot level _ (HG4.out.on h3 h3.size)) ?_
    rintro e Z4 ⟨rfl, bz⟩
    have h4 : Below w4.heap.size w4 Z4 := h3.trans (bz.mono h3.size)
    clear bz
    refine ⟨_, rfl, h4, ?_⟩
    clear h3
    (try simp only [List.getElem_toArray, List.getElem_cons_zero, List.getElem_cons_succ, Act.put, List.setIfInBounds_toArray, List.set_cons_zero, List.set_cons_succ])
    refine wpAnyH_call 16 44 #[.agg (pgL A n c en tp), .int .i64 slot, .int .i64 level] _ (by kernel_rfl) (by rfl) (by kernel_rfl) (by kernel_rfl) (rf_degree A n c ns en tp slot level _ (HG4.out.on h4 h4.size)) ?_
    rintro e Z5 ⟨rfl, bz⟩
    have h5 : Below w4.heap.size w4 Z5 := h4.trans (bz.mono h4.size)
    clear bz
    refine ⟨_, rfl, h5, ?_⟩
    clear h4
    (try simp only [List.getElem_toArray, List.getElem_cons_zero, List.getElem_cons_succ, Act.put, List.setIfInBounds_toArray, List.set_cons_zero, List.set_cons_succ])
    refine wpAnyH_take (i := 17) (v := .bool true) rfl (by kernel_rfl) (by kernel_rfl) (by kernel_rfl) (fun _ _ _ h => h) (yieldsIf_eqlR (by rfl) _ _ rfl rfl rfl (beq_self_eq_true _)) h5 ?_
    (try simp only [List.getElem_toArray, List.getElem_cons_zero, List.getElem_cons_succ, Act.put, List.setIfInBounds_toArray, List.set_cons_zero, List.set_cons_succ])
    refine wpAnyH_take (i := 18) (v := .bool true) rfl (by kernel_rfl) (by kernel_rfl) (by kernel_rfl) (fun _ _ _ h => h) (.inl ⟨by rfl, fun _ _ => by kernel_rfl⟩) h5 ?_
    (try simp only [List.getElem_toArray, List.getElem_cons_zero, List.getElem_cons_succ, Act.put, List.setIfInBounds_toArray, List.set_cons_zero, List.set_cons_succ])
    refine wpAnyH_take (i := 19) (v := .bool true) rfl (by kernel_rfl) (by kernel_rfl) (by kernel_rfl) (fun _ _ _ h => h) (.inl ⟨by rfl, fun _ _ => by kernel_rfl⟩) h5 ?_
    (try simp only [List.getElem_toArray, List.getElem_cons_zero, List.getElem_cons_succ, Act.put, List.setIfInBounds_toArray, List.set_cons_zero, List.set_cons_succ])
    refine wpAnyH_take (i := 20) (v := .agg (pgL A n c en tp)) rfl (by kernel_rfl) (by kernel_rfl) (by kernel_rfl) (fun _ _ _ h => h) (yieldsIf_loadP (by rfl) _ rfl rfl (fun _ q => plane_load (HC4.out.below q HC4.out.lt))) h5 ?_
    (try simp only [List.getElem_toArray, List.getElem_cons_zero, List.getElem_cons_succ, Act.put, List.setIfInBounds_toArray, List.set_cons_zero, List.set_cons_succ])
    refine wpAnyH_take (i := 21) (v := .int .i64 level) rfl (by kernel_rfl) (by kernel_rfl) (by kernel_rfl) (fun _ _ _ h => h) (.inl ⟨by rfl, fun _ _ => by kernel_rfl⟩) h5 ?_
    (try simp only [List.getElem_toArray, List.getElem_cons_zero, List.getElem_cons_succ, Act.put, List.setIfInBounds_toArray, List.set_cons_zero, List.set_cons_succ])
    refine wpAnyH_take (i := 23) (v := .agg (pgL A n c en tp)) rfl (by kernel_rfl) (by kernel_rfl) (by kernel_rfl) (fun _ _ _ h => h) (yieldsIf_loadP (by rfl) _ rfl rfl (fun _ q => plane_load (HC4.out.below q HC4.out.lt))) h5 ?_
    (try simp only [List.getElem_toArray, List.getElem_cons_zero, List.getElem_cons_succ, Act.put, List.setIfInBounds_toArray, List.set_cons_zero, List.set_cons_succ])
    refine wpAnyH_take (i := 24) (v := .int .i64 level) rfl (by kernel_rfl) (by kernel_rfl) (by kernel_rfl) (fun _ _ _ h => h) (.inl ⟨by rfl, fun _ _ => by kernel_rfl⟩) h5 ?_
    (try simp only [List.getElem_toArray, List.getElem_cons_zero, List.getElem_cons_succ, Act.put, List.setIfInBounds_toArray, List.set_cons_zero, List.set_cons_succ])
    refine wpAnyH_call 22 45 #[.agg (pgL A n c en tp), .int .i64 level] _ (by kernel_rfl) (by rfl) (by kernel_rfl) (by kernel_rfl) (pl_edges A n c ns en tp level _ (HG4.out.on h5 h5.size)) ?_
    rintro e Z6 ⟨rfl, bz⟩
    have h6 : Below w4.heap.size w4 Z6 := h5.trans (bz.mono h5.size)
    clear bz
    refine ⟨_, rfl, h6, ?_⟩
    clear h5
    (try simp only [List.getElem_toArray, List.getElem_cons_zero, List.getElem_cons_succ, Act.put, List.setIfInBounds_toArray, List.set_cons_zero, List.set_cons_succ])
    refine wpAnyH_call 25 46 #[.agg (pgL A n c en tp), .int .i64 level] _ (by kernel_rfl) (by rfl) (by kernel_rfl) (by kernel_rfl) (rf_edges A n c ns en tp level _ (HG4.out.on h6 h6.size)) ?_
    rintro e Z7 ⟨rfl, bz⟩
    have h7 : Below w4.heap.size w4 Z7 := h6.trans (bz.mono h6.size)
    clear bz
    refine ⟨_, rfl, h7, ?_⟩
    clear h6
    (try simp only [List.getElem_toArray, List.getElem_cons_zero, List.getElem_cons_succ, Act.put, List.setIfInBounds_toArray, List.set_cons_zero, List.set_cons_succ])
    refine wpAnyH_take (i := 26) (v := .bool true) rfl (by kernel_rfl) (by kernel_rfl) (by kernel_rfl) (fun _ _ _ h => h) (yieldsIf_eqlR (by rfl) _ _ rfl rfl rfl (beq_self_eq_true _)) h7 ?_
    (try simp only [List.getElem_toArray, List.getElem_cons_zero, List.getElem_cons_succ, Act.put, List.setIfInBounds_toArray, List.set_cons_zero, List.set_cons_succ])
    refine wpAnyH_take (i := 27) (v := .bool true) rfl (by kernel_rfl) (by kernel_rfl) (by kernel_rfl) (fun _ _ _ h => h) (.inl ⟨by rfl, fun _ _ => by kernel_rfl⟩) h7 ?_
    (try simp only [List.getElem_toArray, List.getElem_cons_zero, List.getElem_cons_succ, Act.put, List.setIfInBounds_toArray, List.set_cons_zero, List.set_cons_succ])
    refine wpAnyH_take (i := 28) (v := .bool true) rfl (by kernel_rfl) (by kernel_rfl) (by kernel_rfl) (fun _ _ _ h => h) (.inl ⟨by rfl, fun _ _ => by kernel_rfl⟩) h7 ?_
    (try simp only [List.getElem_toArray, List.getElem_cons_zero, List.getElem_cons_succ, Act.put, List.setIfInBounds_toArray, List.set_cons_zero, List.set_cons_succ])
    refine wpAnyH_take (i := 29) (v := .int .i64 wa) rfl (by kernel_rfl) (by kernel_rfl) (by kernel_rfl) (fun _ _ _ h => h) (.inl ⟨by rfl, fun _ _ => by kernel_rfl⟩) h7 ?_
    (try simp only [List.getElem_toArray, List.getElem_cons_zero, List.getElem_cons_succ, Act.put, List.setIfInBounds_toArray, List.set_cons_zero, List.set_cons_succ])
    refine wpAnyH_take (i := 30) (v := .int .i64 wa) rfl (by kernel_rfl) (by kernel_rfl) (by kernel_rfl) (fun _ _ _ h => h) (.inl ⟨by rfl, fun _ _ => by kernel_rfl⟩) h7 ?_
    (try simp only [List.getElem_toArray, List.getElem_cons_zero, List.getElem_cons_succ, Act.put, List.setIfInBounds_toArray, List.set_cons_zero, List.set_cons_succ])
    refine wpAnyH_take (i := 31) (v := .bool true) rfl (by kernel_rfl) (by kernel_rfl) (by kernel_rfl) (fun _ _ _ h => h) (yieldsIf_eqlR (by rfl) _ _ rfl rfl rfl (beq_self_eq_true _)) h7 ?_
    (try simp only [List.getElem_toArray, List.getElem_cons_zero, List.getElem_cons_succ, Act.put, List.setIfInBounds_toArray, List.set_cons_zero, List.set_cons_succ])
    refine wpAnyH_take (i := 32) (v := .bool true) rfl (by kernel_rfl) (by kernel_rfl) (by kernel_rfl) (fun _ _ _ h => h) (.inl ⟨by rfl, fun _ _ => by kernel_rfl⟩) h7 ?_
    (try simp only [List.getElem_toArray, List.getElem_cons_zero, List.getElem_cons_succ, Act.put, List.setIfInBounds_toArray, List.set_cons_zero, List.set_cons_succ])
    refine wpAnyH_take (i := 33) (v := .bool true) rfl (by kernel_rfl) (by kernel_rfl) (by kernel_rfl) (fun _ _ _ h => h) (.inl ⟨by rfl, fun _ _ => by kernel_rfl⟩) h7 ?_
    (try simp only [List.getElem_toArray, List.getElem_cons_zero, List.getElem_cons_succ, Act.put, List.setIfInBounds_toArray, List.set_cons_zero, List.set_cons_succ])
    refine wpAnyH_take (i := 34) (v := .int .i64 wb) rfl (by kernel_rfl) (by kernel_rfl) (by kernel_rfl) (fun _ _ _ h => h) (.inl ⟨by rfl, fun _ _ => by kernel_rfl⟩) h7 ?_
    (try simp only [List.getElem_toArray, List.getElem_cons_zero, List.getElem_cons_succ, Act.put, List.setIfInBounds_toArray, List.set_cons_zero, List.set_cons_succ])
    refine wpAnyH_take (i := 35) (v := .int .i64 wb) rfl (by kernel_rfl) (by kernel_rfl) (by kernel_rfl) (fun _ _ _ h => h) (.inl ⟨by rfl, fun _ _ => by kernel_rfl⟩) h7 ?_
    (try simp only [List.getElem_toArray, List.getElem_cons_zero, List.getElem_cons_succ, Act.put, List.setIfInBounds_toArray, List.set_cons_zero, List.set_cons_succ])
    refine wpAnyH_take (i := 36) (v := .bool true) rfl (by kernel_rfl) (by kernel_rfl) (by kernel_rfl) (fun _ _ _ h => h) (yieldsIf_eqlR (by rfl) _ _ rfl rfl rfl (beq_self_eq_true _)) h7 ?_
    (try simp only [List.getElem_toArray, List.getElem_cons_zero, List.getElem_cons_succ, Act.put, List.setIfInBounds_toArray, List.set_cons_zero, List.set_cons_succ])
    refine wpAnyH_take (i := 37) (v := .bool true) rfl (by kernel_rfl) (by kernel_rfl) (by kernel_rfl) (fun _ _ _ h => h) (.inl ⟨by rfl, fun _ _ => by kernel_rfl⟩) h7 ?_
    (try simp only [List.getElem_toArray, List.getElem_cons_zero, List.getElem_cons_succ, Act.put, List.setIfInBounds_toArray, List.set_cons_zero, List.set_cons_succ])
    refine wpAnyH_take (i := 38) (v := .bool true) rfl (by kernel_rfl) (by kernel_rfl) (by kernel_rfl) (fun _ _ _ h => h) (.inl ⟨by rfl, fun _ _ => by kernel_rfl⟩) h7 ?_
    (try simp only [List.getElem_toArray, List.getElem_cons_zero, List.getElem_cons_succ, Act.put, List.setIfInBounds_toArray, List.set_cons_zero, List.set_cons_succ])
    refine wpAnyH_take (i := 39) (v := .agg (pgL A n c en tp)) rfl (by kernel_rfl) (by kernel_rfl) (by kernel_rfl) (fun _ _ _ h => h) (yieldsIf_loadP (by rfl) _ rfl rfl (fun _ q => plane_load (HC4.out.below q HC4.out.lt))) h7 ?_
    (try simp only [List.getElem_toArray, List.getElem_cons_zero, List.getElem_cons_succ, Act.put, List.setIfInBounds_toArray, List.set_cons_zero, List.set_cons_succ])
    refine wpAnyH_take (i := 40) (v := .int .i64 level) rfl (by kernel_rfl) (by kernel_rfl) (by kernel_rfl) (fun _ _ _ h => h) (.inl ⟨by rfl, fun _ _ => by kernel_rfl⟩) h7 ?_
    (try simp only [List.getElem_toArray, List.getElem_cons_zero, List.getElem_cons_succ, Act.put, List.setIfInBounds_toArray, List.set_cons_zero, List.set_cons_succ])
    refine wpAnyH_take (i := 41) (v := .int .i64 most) rfl (by kernel_rfl) (by kernel_rfl) (by kernel_rfl) (fun _ _ _ h => h) (.inl ⟨by rfl, fun _ _ => by kernel_rfl⟩) h7 ?_
    (try simp only [List.getElem_toArray, List.getElem_cons_zero, List.getElem_cons_succ, Act.put, List.setIfInBounds_toArray, List.set_cons_zero, List.set_cons_succ])
    refine wpAnyH_take (i := 43) (v := .agg (pgL A n c en tp)) rfl (by kernel_rfl) (by kernel_rfl) (by kernel_rfl) (fun _ _ _ h => h) (yieldsIf_loadP (by rfl) _ rfl rfl (fun _ q => plane_load (HC4.out.below q HC4.out.lt))) h7 ?_
    (try simp only [List.getElem_toArray, List.getElem_cons_zero, List.getElem_cons_succ, Act.put, List.setIfInBounds_toArray, List.set_cons_zero, List.set_cons_succ])
    refine wpAnyH_take (i := 44) (v := .int .i64 level) rfl (by kernel_rfl) (by kernel_rfl) (by kernel_rfl) (fun _ _ _ h => h) (.inl ⟨by rfl, fun _ _ => by kernel_rfl⟩) h7 ?_
    (try simp only [List.getElem_toArray, List.getElem_cons_zero, List.getElem_cons_succ, Act.put, List.setIfInBounds_toArray, List.set_cons_zero, List.set_cons_succ])
    refine wpAnyH_take (i := 45) (v := .int .i64 most) rfl (by kernel_rfl) (by kernel_rfl) (by kernel_rfl) (fun _ _ _ h => h) (.inl ⟨by rfl, fun _ _ => by kernel_rfl⟩) h7 ?_
    (try simp only [List.getElem_toArray, List.getElem_cons_zero, List.getElem_cons_succ, Act.put, List.setIfInBounds_toArray, List.set_cons_zero, List.set_cons_succ])
    refine wpAnyH_call 42 47 #[.agg (pgL A n c en tp), .int .i64 level, .int .i64 most] _ (by kernel_rfl) (by rfl) (by kernel_rfl) (by kernel_rfl) (pl_degrees A n c ns en tp level most _ (HG4.out.on h7 h7.size)) ?_
    rintro e Z8 ⟨A8, m8, d8, rfl, ho8, bz⟩
    have h8 : Below w4.heap.size w4 Z8 := h7.trans (bz.mono h7.size)
    have R8 := Lib.hid ho8.rd
    have L8 := Lib.hid ho8.len
    clear ho8
    clear bz
    refine ⟨_, rfl, h8, ?_⟩
    clear h7
    (try simp only [List.getElem_toArray, List.getElem_cons_zero, List.getElem_cons_succ, Act.put, List.setIfInBounds_toArray, List.set_cons_zero, List.set_cons_succ])
    refine wpAnyH_call 46 48 #[.agg (pgL A n c en tp), .int .i64 level, .int .i64 most] _ (by kernel_rfl) (by rfl) (by kernel_rfl) (by kernel_rfl) (rf_degrees A n c ns en tp level most _ (HG4.out.on h8 h8.size)) ?_
    rintro e Z9 ⟨A9, m9, d9, rfl, ho9, bz⟩
    have h9 : Below w4.heap.size w4 Z9 := h8.trans (bz.mono h8.size)
    replace R8 := Lib.hid ((R8.out.below bz).more bz.size)
    have R9 := Lib.hid ho9.rd
    have L9 := Lib.hid ho9.len
    clear ho9
    clear bz
    refine ⟨_, rfl, h9, ?_⟩
    clear h8
    (try simp only [List.getElem_toArray, List.getElem_cons_zero, List.getElem_cons_succ, Act.put, List.setIfInBounds_toArray, List.set_cons_zero, List.set_cons_succ])
    refine wpAnyH_call 47 26 #[.slice A8 m8 d8, .slice A9 m9 d9] _ (by kernel_rfl) (by rfl) (by kernel_rfl) (by kernel_rfl) (same_ints A8 A9 m8 m9 d8 d9 _ _ _ _ R8.out R9.out (by have := L8.out; have h2 := HLD.out; omega) (by have := L9.out; have h2 := HLD.out; omega)) ?_
    rintro e Z10 ⟨rfl, q, rfl⟩
    have h10 := below_drewN h9 q
    rw [sameB_refl]
    refine ⟨_, rfl, h10, ?_⟩
    clear h9 R8 R9 L8 L9
    (try simp only [List.getElem_toArray, List.getElem_cons_zero, List.getElem_cons_succ, Act.put, List.setIfInBounds_toArray, List.set_cons_zero, List.set_cons_succ])
    refine wpAnyH_take (i := 48) (v := .bool true) rfl (by kernel_rfl) (by kernel_rfl) (by kernel_rfl) (fun _ _ _ h => h) (.inl ⟨by rfl, fun _ _ => by kernel_rfl⟩) h10 ?_
    (try simp only [List.getElem_toArray, List.getElem_cons_zero, List.getElem_cons_succ, Act.put, List.setIfInBounds_toArray, List.set_cons_zero, List.set_cons_succ])
    refine wpAnyH_take (i := 49) (v := .bool true) rfl (by kernel_rfl) (by kernel_rfl) (by kernel_rfl) (fun _ _ _ h => h) (.inl ⟨by rfl, fun _ _ => by kernel_rfl⟩) h10 ?_
    (try simp only [List.getElem_toArray, List.getElem_cons_zero, List.getElem_cons_succ, Act.put, List.setIfInBounds_toArray, List.set_cons_zero, List.set_cons_succ])
    refine wpAnyH_take (i := 50) (v := .agg (pgL A n c en tp)) rfl (by kernel_rfl) (by kernel_rfl) (by kernel_rfl) (fun _ _ _ h => h) (yieldsIf_loadP (by rfl) _ rfl rfl (fun _ q => plane_load (HC4.out.below q HC4.out.lt))) h10 ?_
    (try simp only [List.getElem_toArray, List.getElem_cons_zero, List.getElem_cons_succ, Act.put, List.setIfInBounds_toArray, List.set_cons_zero, List.set_cons_succ])
    refine wpAnyH_take (i := 51) (v := .int .i64 level) rfl (by kernel_rfl) (by kernel_rfl) (by kernel_rfl) (fun _ _ _ h => h) (.inl ⟨by rfl, fun _ _ => by kernel_rfl⟩) h10 ?_
    (try simp only [List.getElem_toArray, List.getElem_cons_zero, List.getElem_cons_succ, Act.put, List.setIfInBounds_toArray, List.set_cons_zero, List.set_cons_succ])
    refine wpAnyH_take (i := 53) (v := .agg (pgL A n c en tp)) rfl (by kernel_rfl) (by kernel_rfl) (by kernel_rfl) (fun _ _ _ h => h) (yieldsIf_loadP (by rfl) _ rfl rfl (fun _ q => plane_load (HC4.out.below q HC4.out.lt))) h10 ?_
    (try simp only [List.getElem_toArray, List.getElem_cons_zero, List.getElem_cons_succ, Act.put, List.setIfInBounds_toArray, List.set_cons_zero, List.set_cons_succ])
    refine wpAnyH_take (i := 54) (v := .int .i64 level) rfl (by kernel_rfl) (by kernel_rfl) (by kernel_rfl) (fun _ _ _ h => h) (.inl ⟨by rfl, fun _ _ => by kernel_rfl⟩) h10 ?_
    (try simp only [List.getElem_toArray, List.getElem_cons_zero, List.getElem_cons_succ, Act.put, List.setIfInBounds_toArray, List.set_cons_zero, List.set_cons_succ])
    refine wpAnyH_call 52 49 #[.agg (pgL A n c en tp), .int .i64 level] _ (by kernel_rfl) (by rfl) (by kernel_rfl) (by kernel_rfl) (pl_alone A n c ns en tp level _ (HG4.out.on h10 h10.size)) ?_
    rintro e Z11 ⟨A11, m11, d11, rfl, ho11, bz⟩
    have h11 : Below w4.heap.size w4 Z11 := h10.trans (bz.mono h10.size)
    have R11 := Lib.hid ho11.rd
    have L11 := Lib.hid ho11.len
    clear ho11
    clear bz
    refine ⟨_, rfl, h11, ?_⟩
    clear h10
    (try simp only [List.getElem_toArray, List.getElem_cons_zero, List.getElem_cons_succ, Act.put, List.setIfInBounds_toArray, List.set_cons_zero, List.set_cons_succ])
    refine wpAnyH_call 55 50 #[.agg (pgL A n c en tp), .int .i64 level] _ (by kernel_rfl) (by rfl) (by kernel_rfl) (by kernel_rfl) (rf_alone A n c ns en tp level _ (HG4.out.on h11 h11.size)) ?_
    rintro e Z12 ⟨A12, m12, d12, rfl, ho12, bz⟩
    have h12 : Below w4.heap.size w4 Z12 := h11.trans (bz.mono h11.size)
    replace R11 := Lib.hid ((R11.out.below bz).more bz.size)
    have R12 := Lib.hid ho12.rd
    have L12 := Lib.hid ho12.len
    clear ho12
    clear bz
    refine ⟨_, rfl, h12, ?_⟩
    clear h11
    (try simp only [List.getElem_toArray, List.getElem_cons_zero, List.getElem_cons_succ, Act.put, List.setIfInBounds_toArray, List.set_cons_zero, List.set_cons_succ])
    refine wpAnyH_call 56 26 #[.slice A11 m11 d11, .slice A12 m12 d12] _ (by kernel_rfl) (by rfl) (by kernel_rfl) (by kernel_rfl) (same_ints A11 A12 m11 m12 d11 d12 _ _ _ _ R11.out R12.out (by have := L11.out; have h2 := HLA.out; omega) (by have := L12.out; have h2 := HLA.out; omega)) ?_
    rintro e Z13 ⟨rfl, q, rfl⟩
    have h13 := below_drewN h12 q
    rw [sameB_refl]
    refine ⟨_, rfl, h13, ?_⟩
    clear h12 R11 R12 L11 L12
    (try simp only [List.getElem_toArray, List.getElem_cons_zero, List.getElem_cons_succ, Act.put, List.setIfInBounds_toArray, List.set_cons_zero, List.set_cons_succ])
    refine wpAnyH_take (i := 57) (v := .bool true) rfl (by kernel_rfl) (by kernel_rfl) (by kernel_rfl) (fun _ _ _ h => h) (.inl ⟨by rfl, fun _ _ => by kernel_rfl⟩) h13 ?_
    (try simp only [List.getElem_toArray, List.getElem_cons_zero, List.getElem_cons_succ, Act.put, List.setIfInBounds_toArray, List.set_cons_zero, List.set_cons_succ])
    refine wpAnyH_take (i := 58) (v := .bool true) rfl (by kernel_rfl) (by kernel_rfl) (by kernel_rfl) (fun _ _ _ h => h) (.inl ⟨by rfl, fun _ _ => by kernel_rfl⟩) h13 ?_
    (try simp only [List.getElem_toArray, List.getElem_cons_zero, List.getElem_cons_succ, Act.put, List.setIfInBounds_toArray, List.set_cons_zero, List.set_cons_succ])
    refine wpAnyH_done (by kernel_rfl) ?_ _
    have HBZ := Lib.hid (HB4.out.trans (h13.mono HB4.out.size))
    clear h13
    go_wp2_with fail
    go_ret
    exact ⟨rfl, HBZ.out⟩
end Go.Proofs.Ytkhnnjeinpojkaa
