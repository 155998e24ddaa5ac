/- Planes: PlaneTells, walked. Printed by genPmV.py. -/
import Derived.Test.YtkhnnjeinpojkaaPmU
import Derived.Test.YtkhnnjeinpojkaaPmS
namespace Go.Proofs.Ytkhnnjeinpojkaa
open Go.RowKit Go.Maps Go.ChangeMaps Go.MapKept
theorem run_eqlB (m n : Bool) (w : World) : (binOp .eql 4 (.bool m) (.bool n)).run Try.prog w = .ok (.bool (m == n)) w := by
  cases m <;> cases n <;> kernel_rfl
theorem yieldsIf_eqlB {ops : Array Oper} {S : World → Prop} {o : Oper} {a : Act} {t' : TypeId} {m n r : Bool} (hw : Region.wanted o (yielded ops a.tmps) = true) (x y : Operand) (ho : o.op = .binOp .eql 4 x y t') (hx : a.eval x = .bool m) (hy : a.eval y = .bool n) (hr : (m == n) = r) : YieldsIf Try.prog ops S o (.bool r) a := by
  refine .inl ⟨hw, fun w _ => ?_⟩
  unfold execOp
  simp only [ho, hx, hy, Sem.run_bind, run_eqlB, hr]
  rfl
theorem near_len {ns : List ND} (s level : Int) (h : ∀ i k, (lsAt (nAt ns i) k).xs.length ≤ 1048576) : (nearI ns s level).length ≤ 1048578 := by
  unfold nearI
  split
  · refine Nat.le_trans (keptI_len _ _ _) ?_
    unfold nearSrc
    rw [List.length_append]
    have h1 := h s.toNat level.toNat
    have h2 : (if level = 0 then [(nAt ns s.toNat).next, (nAt ns s.toNat).prev] else []).length ≤ 2 := by split <;> simp
    have h3 : (if 0 < s.toNat ∧ 0 ≤ level ∧ level < (nAt ns s.toNat).ls.length then (lsAt (nAt ns s.toNat) level.toNat).xs else []).length ≤ 1048576 := by
      split
      · exact h1
      · simp
    omega
  · simp
theorem PgAt.lists_len {w : World} {B : Nat} {A : Option Addr} {n c : Nat} {ns : List ND} (h : PgAt w B A n c ns) (i k : Nat) : (lsAt (nAt ns i) k).xs.length ≤ 1048576 := by
  by_cases hi : i < n
  · have ha := (h.lists hi).choose_spec.choose_spec.2.2.2
    unfold lsAt
    rw [List.getD_eq_getElem?_getD]
    cases hk : (nAt ns i).ls[k]? with
    | none => simp
    | some l =>
      have := ha.2.2.2.2.1 l (List.mem_of_getElem? hk)
      show l.xs.length ≤ _
      rw [this.len]
      exact this.2.1
  · rw [nAt_out (by rw [h.len]; omega)]
    unfold lsAt nd0
    simp
theorem ring_len {ns : List ND} (h : ns.length ≤ 1048576) : (ringI ns).length ≤ 1048577 := by
  unfold ringI
  split
  · simp
  · have key : ∀ f out a, (ringGo ns f out a).length ≤ out.length + f := by
      intro f
      induction f with
      | zero => intro out a; exact Nat.le_refl _
      | succ f ih =>
        intro out a
        unfold ringGo
        split
        · have := ih (out ++ [a]) (nAt ns a.toNat).next
          rw [List.length_append, List.length_singleton] at this
          omega
        · omega
    have := key (ns.length + 1) [] (nAt ns 0).next
    simp at this
    omega
set_option maxRecDepth 100000 in
set_option maxHeartbeats 4000000 in
theorem tells12 (A : Option Addr) (n c : Nat) (ns : List ND) (en tp links slot level : Int) (w : World) (hg : PgRaw w w.heap.size A n c ns) :
    Calls Try.prog 5 #[.agg (pgL A n c en tp), .int .i64 links, .int .i64 slot, .int .i64 level] w (RetB true w) := by
  obtain ⟨w1, hw1⟩ : ∃ x, w.alloc (.cells (pgL A n c en tp) 56) = x := ⟨_, rfl⟩
  obtain ⟨C1, b1⟩ := box_plane hw1
  have HR1 := (hg.below b1).more b1.size
  have LP := plane_load C1
  have HSM := small12 A n c ns en tp w1 HR1
  have HB := Lib.hid b1
  have HC1 := Lib.hid C1
  have HR := Lib.hid HR1
  obtain ⟨sm, hsm⟩ : ∃ sm, smB ns = sm := ⟨_, rfl⟩
  rw [hsm] at HSM
  have HSB := Lib.hid hsm
  clear hg C1 b1 HR1 hsm
  unfold pgL at hw1 LP HSM ⊢
  replace HSM := Lib.hid HSM
  go_enter Try.func5, Try.ntmps5
  go_upto_region 1 with fail
  (try rw [hw1])
  clear hw1
  cases sm with
  | false =>
    go_wp2_with (first
      | ((with_reducible refine wpList_loadE (op := ⟨some 9, _, _, _, _, _⟩) LP ?leX ?leG ?leO ?leE ?_); (case leO => exact rfl); (case leE => exact rfl); (case leG => exact rfl))
      | (go_at_call 20; (with_reducible refine HSM.out.mono ?_); rintro e w2 ⟨rfl, b2⟩; have HB2 := Lib.hid (HB.out.trans (b2.mono HB.out.size)); have HLV := Lib.hid (lives12 w2); clear b2)
      | (go_at_call 21; (with_reducible refine HLV.out.mono ?_); rintro e w3 ⟨rfl, b3⟩; have HB3 := Lib.hid (HB2.out.trans (b3.mono HB2.out.size)); clear b3))
    go_ret
    exact ⟨rfl, HB3.out⟩
  | true =>
    go_upto_region 3 with (first
      | ((with_reducible refine wpList_loadE (op := ⟨some 9, _, _, _, _, _⟩) LP ?leX ?leG ?leO ?leE ?_); (case leO => exact rfl); (case leE => exact rfl); (case leG => exact rfl))
      | (go_at_call 20; (with_reducible refine HSM.out.mono ?_); rintro e w2 ⟨rfl, b2⟩; have HB2 := Lib.hid (HB.out.trans (b2.mono HB.out.size)); have HG := Lib.hid ((HR.out.at_ HSB.out).on b2 b2.size); have HC := Lib.hid (HC1.out.below b2 HC1.out.lt); clear b2))
    have HN := HG.out.2.1
    have HLL : Hid ((liveI ns).length ≤ 1048576) := by show _ ≤ _; have h1 := lvI_le ns ns.length; have h2 := HG.out.len; unfold liveI; omega
    have HLR : Hid ((ringI ns).length ≤ 1048577) := ring_len (by rw [HG.out.len]; exact HN)
    have HLN : Hid ((nearI ns slot level).length ≤ 1048578) := near_len slot level HG.out.lists_len
    clear LP HSM HR HSB
    refine wp_region_held_drew (S := fun w' => Below w2.heap.size w2 w') (by kernel_rfl) (below_drewN (Below.refl _ w2) 1) (fun hH => ?_)
    refine wpAnyH_call 0 21 #[] _ (by kernel_rfl) (by rfl) (by kernel_rfl) (by kernel_rfl) (lives12 _) ?_
    rintro e Z1 ⟨rfl, bz⟩
    have h1 : Below w2.heap.size w2 Z1 := hH.trans (bz.mono hH.size)
    clear bz
    refine ⟨_, rfl, h1, ?_⟩
    clear hH
    (try simp only [List.getElem_toArray, List.getElem_cons_zero, Act.put, List.setIfInBounds_toArray, List.set_cons_zero, List.set_cons_succ])
    refine wpAnyH_take (i := 1) (v := .bool true) rfl (by kernel_rfl) (by kernel_rfl) (by kernel_rfl) (fun _ _ _ h => h) (.inl ⟨by rfl, fun _ _ => by kernel_rfl⟩) h1 ?_
    (try simp only [List.getElem_toArray, List.getElem_cons_zero, List.getElem_cons_succ, Act.put, List.setIfInBounds_toArray, List.set_cons_zero, List.set_cons_succ])
    refine wpAnyH_take (i := 2) (v := .agg (pgL A n c en tp)) rfl (by kernel_rfl) (by kernel_rfl) (by kernel_rfl) (fun _ _ _ h => h) (yieldsIf_loadP (by rfl) _ rfl rfl (fun _ q => plane_load (HC.out.below q HC.out.lt))) h1 ?_
    (try simp only [List.getElem_toArray, List.getElem_cons_zero, List.getElem_cons_succ, Act.put, List.setIfInBounds_toArray, List.set_cons_zero, List.set_cons_succ])
    refine wpAnyH_take (i := 3) (v := .int .i64 links) rfl (by kernel_rfl) (by kernel_rfl) (by kernel_rfl) (fun _ _ _ h => h) (.inl ⟨by rfl, fun _ _ => by kernel_rfl⟩) h1 ?_
    (try simp only [List.getElem_toArray, List.getElem_cons_zero, List.getElem_cons_succ, Act.put, List.setIfInBounds_toArray, List.set_cons_zero, List.set_cons_succ])
    refine wpAnyH_take (i := 5) (v := .agg (pgL A n c en tp)) rfl (by kernel_rfl) (by kernel_rfl) (by kernel_rfl) (fun _ _ _ h => h) (yieldsIf_loadP (by rfl) _ rfl rfl (fun _ q => plane_load (HC.out.below q HC.out.lt))) h1 ?_
    (try simp only [List.getElem_toArray, List.getElem_cons_zero, List.getElem_cons_succ, Act.put, List.setIfInBounds_toArray, List.set_cons_zero, List.set_cons_succ])
    refine wpAnyH_take (i := 6) (v := .int .i64 links) rfl (by kernel_rfl) (by kernel_rfl) (by kernel_rfl) (fun _ _ _ h => h) (.inl ⟨by rfl, fun _ _ => by kernel_rfl⟩) h1 ?_
    (try simp only [List.getElem_toArray, List.getElem_cons_zero, List.getElem_cons_succ, Act.put, List.setIfInBounds_toArray, List.set_cons_zero, List.set_cons_succ])
    refine wpAnyH_call 4 22 #[.agg (pgL A n c en tp), .int .i64 links] _ (by kernel_rfl) (by rfl) (by kernel_rfl) (by kernel_rfl) (pl_check A n c ns en tp links _ (HG.out.on h1 h1.size)) ?_
    rintro e Z2 ⟨rfl, bz⟩
    have h2 : Below w2.heap.size w2 Z2 := h1.trans (bz.mono h1.size)
    clear bz
    refine ⟨_, rfl, h2, ?_⟩
    clear h1
    (try simp only [List.getElem_toArray, List.getElem_cons_zero, List.getElem_cons_succ, Act.put, List.setIfInBounds_toArray, List.set_cons_zero, List.set_cons_succ])
    refine wpAnyH_call 7 23 #[.agg (pgL A n c en tp), .int .i64 links] _ (by kernel_rfl) (by rfl) (by kernel_rfl) (by kernel_rfl) (rf_check A n c ns en tp links _ (HG.out.on h2 h2.size)) ?_
    rintro e Z3 ⟨rfl, bz⟩
    have h3 : Below w2.heap.size w2 Z3 := h2.trans (bz.mono h2.size)
    clear bz
    refine ⟨_, rfl, h3, ?_⟩
    clear h2
    (try simp only [List.getElem_toArray, List.getElem_cons_zero, List.getElem_cons_succ, Act.put, List.setIfInBounds_toArray, List.set_cons_zero, List.set_cons_succ])
    refine wpAnyH_take (i := 8) (v := .bool true) rfl (by kernel_rfl) (by kernel_rfl) (by kernel_rfl) (fun _ _ _ h => h) (yieldsIf_eqlR (by rfl) _ _ rfl rfl rfl (beq_self_eq_true _)) h3 ?_
    (try simp only [List.getElem_toArray, List.getElem_cons_zero, List.getElem_cons_succ, Act.put, List.setIfInBounds_toArray, List.set_cons_zero, List.set_cons_succ])
    refine wpAnyH_take (i := 9) (v := .bool true) rfl (by kernel_rfl) (by kernel_rfl) (by kernel_rfl) (fun _ _ _ h => h) (.inl ⟨by rfl, fun _ _ => by kernel_rfl⟩) h3 ?_
    (try simp only [List.getElem_toArray, List.getElem_cons_zero, List.getElem_cons_succ, Act.put, List.setIfInBounds_toArray, List.set_cons_zero, List.set_cons_succ])
    refine wpAnyH_take (i := 10) (v := .bool true) rfl (by kernel_rfl) (by kernel_rfl) (by kernel_rfl) (fun _ _ _ h => h) (.inl ⟨by rfl, fun _ _ => by kernel_rfl⟩) h3 ?_
    (try simp only [List.getElem_toArray, List.getElem_cons_zero, List.getElem_cons_succ, Act.put, List.setIfInBounds_toArray, List.set_cons_zero, List.set_cons_succ])
    refine wpAnyH_take (i := 11) (v := .agg (pgL A n c en tp)) rfl (by kernel_rfl) (by kernel_rfl) (by kernel_rfl) (fun _ _ _ h => h) (yieldsIf_loadP (by rfl) _ rfl rfl (fun _ q => plane_load (HC.out.below q HC.out.lt))) h3 ?_
    (try simp only [List.getElem_toArray, List.getElem_cons_zero, List.getElem_cons_succ, Act.put, List.setIfInBounds_toArray, List.set_cons_zero, List.set_cons_succ])
    refine wpAnyH_take (i := 12) (v := .int .i64 slot) rfl (by kernel_rfl) (by kernel_rfl) (by kernel_rfl) (fun _ _ _ h => h) (.inl ⟨by rfl, fun _ _ => by kernel_rfl⟩) h3 ?_
    (try simp only [List.getElem_toArray, List.getElem_cons_zero, List.getElem_cons_succ, Act.put, List.setIfInBounds_toArray, List.set_cons_zero, List.set_cons_succ])
    refine wpAnyH_take (i := 14) (v := .agg (pgL A n c en tp)) rfl (by kernel_rfl) (by kernel_rfl) (by kernel_rfl) (fun _ _ _ h => h) (yieldsIf_loadP (by rfl) _ rfl rfl (fun _ q => plane_load (HC.out.below q HC.out.lt))) h3 ?_
    (try simp only [List.getElem_toArray, List.getElem_cons_zero, List.getElem_cons_succ, Act.put, List.setIfInBounds_toArray, List.set_cons_zero, List.set_cons_succ])
    refine wpAnyH_take (i := 15) (v := .int .i64 slot) rfl (by kernel_rfl) (by kernel_rfl) (by kernel_rfl) (fun _ _ _ h => h) (.inl ⟨by rfl, fun _ _ => by kernel_rfl⟩) h3 ?_
    (try simp only [List.getElem_toArray, List.getElem_cons_zero, List.getElem_cons_succ, Act.put, List.setIfInBounds_toArray, List.set_cons_zero, List.set_cons_succ])
    refine wpAnyH_call 13 24 #[.agg (pgL A n c en tp), .int .i64 slot] _ (by kernel_rfl) (by rfl) (by kernel_rfl) (by kernel_rfl) (pl_there A n c ns en tp slot _ (HG.out.on h3 h3.size)) ?_
    rintro e Z4 ⟨rfl, bz⟩
    have h4 : Below w2.heap.size w2 Z4 := h3.trans (bz.mono h3.size)
    clear bz
    refine ⟨_, rfl, h4, ?_⟩
    clear h3
    (try simp only [List.getElem_toArray, List.getElem_cons_zero, List.getElem_cons_succ, Act.put, List.setIfInBounds_toArray, List.set_cons_zero, List.set_cons_succ])
    refine wpAnyH_call 16 25 #[.agg (pgL A n c en tp), .int .i64 slot] _ (by kernel_rfl) (by rfl) (by kernel_rfl) (by kernel_rfl) (rf_there A n c ns en tp slot _ (HG.out.on h4 h4.size)) ?_
    rintro e Z5 ⟨rfl, bz⟩
    have h5 : Below w2.heap.size w2 Z5 := h4.trans (bz.mono h4.size)
    clear bz
    refine ⟨_, rfl, h5, ?_⟩
    clear h4
    (try simp only [List.getElem_toArray, List.getElem_cons_zero, List.getElem_cons_succ, Act.put, List.setIfInBounds_toArray, List.set_cons_zero, List.set_cons_succ])
    refine wpAnyH_take (i := 17) (v := .bool true) rfl (by kernel_rfl) (by kernel_rfl) (by kernel_rfl) (fun _ _ _ h => h) (yieldsIf_eqlB (by rfl) _ _ rfl rfl rfl (beq_self_eq_true _)) h5 ?_
    (try simp only [List.getElem_toArray, List.getElem_cons_zero, List.getElem_cons_succ, Act.put, List.setIfInBounds_toArray, List.set_cons_zero, List.set_cons_succ])
    refine wpAnyH_take (i := 18) (v := .bool true) rfl (by kernel_rfl) (by kernel_rfl) (by kernel_rfl) (fun _ _ _ h => h) (.inl ⟨by rfl, fun _ _ => by kernel_rfl⟩) h5 ?_
    (try simp only [List.getElem_toArray, List.getElem_cons_zero, List.getElem_cons_succ, Act.put, List.setIfInBounds_toArray, List.set_cons_zero, List.set_cons_succ])
    refine wpAnyH_take (i := 19) (v := .bool true) rfl (by kernel_rfl) (by kernel_rfl) (by kernel_rfl) (fun _ _ _ h => h) (.inl ⟨by rfl, fun _ _ => by kernel_rfl⟩) h5 ?_
    (try simp only [List.getElem_toArray, List.getElem_cons_zero, List.getElem_cons_succ, Act.put, List.setIfInBounds_toArray, List.set_cons_zero, List.set_cons_succ])
    refine wpAnyH_take (i := 20) (v := .agg (pgL A n c en tp)) rfl (by kernel_rfl) (by kernel_rfl) (by kernel_rfl) (fun _ _ _ h => h) (yieldsIf_loadP (by rfl) _ rfl rfl (fun _ q => plane_load (HC.out.below q HC.out.lt))) h5 ?_
    (try simp only [List.getElem_toArray, List.getElem_cons_zero, List.getElem_cons_succ, Act.put, List.setIfInBounds_toArray, List.set_cons_zero, List.set_cons_succ])
    refine wpAnyH_take (i := 22) (v := .agg (pgL A n c en tp)) rfl (by kernel_rfl) (by kernel_rfl) (by kernel_rfl) (fun _ _ _ h => h) (yieldsIf_loadP (by rfl) _ rfl rfl (fun _ q => plane_load (HC.out.below q HC.out.lt))) h5 ?_
    (try simp only [List.getElem_toArray, List.getElem_cons_zero, List.getElem_cons_succ, Act.put, List.setIfInBounds_toArray, List.set_cons_zero, List.set_cons_succ])
    refine wpAnyH_call 21 27 #[.agg (pgL A n c en tp)] _ (by kernel_rfl) (by rfl) (by kernel_rfl) (by kernel_rfl) (pl_live A n c ns en tp _ (HG.out.on h5 h5.size)) ?_
    rintro e Z6 ⟨A6, m6, d6, rfl, ho6, bz⟩
    have h6 : Below w2.heap.size w2 Z6 := h5.trans (bz.mono h5.size)
    have R6 := Lib.hid ho6.rd
    have L6 := Lib.hid ho6.len
    clear ho6
    clear bz
    refine ⟨_, rfl, h6, ?_⟩
    clear h5
    (try simp only [List.getElem_toArray, List.getElem_cons_zero, List.getElem_cons_succ, Act.put, List.setIfInBounds_toArray, List.set_cons_zero, List.set_cons_succ])
    refine wpAnyH_call 23 28 #[.agg (pgL A n c en tp)] _ (by kernel_rfl) (by rfl) (by kernel_rfl) (by kernel_rfl) (rf_live A n c ns en tp _ (HG.out.on h6 h6.size)) ?_
    rintro e Z7 ⟨A7, m7, d7, rfl, ho7, bz⟩
    have h7 : Below w2.heap.size w2 Z7 := h6.trans (bz.mono h6.size)
    replace R6 := Lib.hid ((R6.out.below bz).more bz.size)
    have R7 := Lib.hid ho7.rd
    have L7 := Lib.hid ho7.len
    clear ho7
    clear bz
    refine ⟨_, rfl, h7, ?_⟩
    clear h6
    (try simp only [List.getElem_toArray, List.getElem_cons_zero, List.getElem_cons_succ, Act.put, List.setIfInBounds_toArray, List.set_cons_zero, List.set_cons_succ])
    refine wpAnyH_call 24 26 #[.slice A6 m6 d6, .slice A7 m7 d7] _ (by kernel_rfl) (by rfl) (by kernel_rfl) (by kernel_rfl) (same_ints A6 A7 m6 m7 d6 d7 _ _ _ _ R6.out R7.out (by have := L6.out; have h2 := HLL.out; omega) (by have := L7.out; have h2 := HLL.out; omega)) ?_
    rintro e Z8 ⟨rfl, q, rfl⟩
    have h8 := below_drewN h7 q
    rw [same_refl]
    refine ⟨_, rfl, h8, ?_⟩
    clear h7 R6 R7 L6 L7
    (try simp only [List.getElem_toArray, List.getElem_cons_zero, List.getElem_cons_succ, Act.put, List.setIfInBounds_toArray, List.set_cons_zero, List.set_cons_succ])
    refine wpAnyH_take (i := 25) (v := .bool true) rfl (by kernel_rfl) (by kernel_rfl) (by kernel_rfl) (fun _ _ _ h => h) (.inl ⟨by rfl, fun _ _ => by kernel_rfl⟩) h8 ?_
    (try simp only [List.getElem_toArray, List.getElem_cons_zero, List.getElem_cons_succ, Act.put, List.setIfInBounds_toArray, List.set_cons_zero, List.set_cons_succ])
    refine wpAnyH_take (i := 26) (v := .bool true) rfl (by kernel_rfl) (by kernel_rfl) (by kernel_rfl) (fun _ _ _ h => h) (.inl ⟨by rfl, fun _ _ => by kernel_rfl⟩) h8 ?_
    (try simp only [List.getElem_toArray, List.getElem_cons_zero, List.getElem_cons_succ, Act.put, List.setIfInBounds_toArray, List.set_cons_zero, List.set_cons_succ])
    refine wpAnyH_take (i := 27) (v := .agg (pgL A n c en tp)) rfl (by kernel_rfl) (by kernel_rfl) (by kernel_rfl) (fun _ _ _ h => h) (yieldsIf_loadP (by rfl) _ rfl rfl (fun _ q => plane_load (HC.out.below q HC.out.lt))) h8 ?_
    (try simp only [List.getElem_toArray, List.getElem_cons_zero, List.getElem_cons_succ, Act.put, List.setIfInBounds_toArray, List.set_cons_zero, List.set_cons_succ])
    refine wpAnyH_take (i := 29) (v := .agg (pgL A n c en tp)) rfl (by kernel_rfl) (by kernel_rfl) (by kernel_rfl) (fun _ _ _ h => h) (yieldsIf_loadP (by rfl) _ rfl rfl (fun _ q => plane_load (HC.out.below q HC.out.lt))) h8 ?_
    (try simp only [List.getElem_toArray, List.getElem_cons_zero, List.getElem_cons_succ, Act.put, List.setIfInBounds_toArray, List.set_cons_zero, List.set_cons_succ])
    refine wpAnyH_call 28 29 #[.agg (pgL A n c en tp)] _ (by kernel_rfl) (by rfl) (by kernel_rfl) (by kernel_rfl) (pl_ring A n c ns en tp _ (HG.out.on h8 h8.size)) ?_
    rintro e Z9 ⟨A9, m9, d9, rfl, ho9, bz⟩
    have h9 : Below w2.heap.size w2 Z9 := h8.trans (bz.mono h8.size)
    have R9 := Lib.hid ho9.rd
    have L9 := Lib.hid ho9.len
    clear ho9
    clear bz
    refine ⟨_, rfl, h9, ?_⟩
    clear h8
    (try simp only [List.getElem_toArray, List.getElem_cons_zero, List.getElem_cons_succ, Act.put, List.setIfInBounds_toArray, List.set_cons_zero, List.set_cons_succ])
    refine wpAnyH_call 30 30 #[.agg (pgL A n c en tp)] _ (by kernel_rfl) (by rfl) (by kernel_rfl) (by kernel_rfl) (rf_ring A n c ns en tp _ (HG.out.on h9 h9.size)) ?_
    rintro e Z10 ⟨A10, m10, d10, rfl, ho10, bz⟩
    have h10 : Below w2.heap.size w2 Z10 := h9.trans (bz.mono h9.size)
    replace R9 := Lib.hid ((R9.out.below bz).more bz.size)
    have R10 := Lib.hid ho10.rd
    have L10 := Lib.hid ho10.len
    clear ho10
    clear bz
    refine ⟨_, rfl, h10, ?_⟩
    clear h9
    (try simp only [List.getElem_toArray, List.getElem_cons_zero, List.getElem_cons_succ, Act.put, List.setIfInBounds_toArray, List.set_cons_zero, List.set_cons_succ])
    refine wpAnyH_call 31 26 #[.slice A9 m9 d9, .slice A10 m10 d10] _ (by kernel_rfl) (by rfl) (by kernel_rfl) (by kernel_rfl) (same_ints A9 A10 m9 m10 d9 d10 _ _ _ _ R9.out R10.out (by have := L9.out; have h2 := HLR.out; omega) (by have := L10.out; have h2 := HLR.out; omega)) ?_
    rintro e Z11 ⟨rfl, q, rfl⟩
    have h11 := below_drewN h10 q
    rw [same_refl]
    refine ⟨_, rfl, h11, ?_⟩
    clear h10 R9 R10 L9 L10
    (try simp only [List.getElem_toArray, List.getElem_cons_zero, List.getElem_cons_succ, Act.put, List.setIfInBounds_toArray, List.set_cons_zero, List.set_cons_succ])
    refine wpAnyH_take (i := 32) (v := .bool true) rfl (by kernel_rfl) (by kernel_rfl) (by kernel_rfl) (fun _ _ _ h => h) (.inl ⟨by rfl, fun _ _ => by kernel_rfl⟩) h11 ?_
    (try simp only [List.getElem_toArray, List.getElem_cons_zero, List.getElem_cons_succ, Act.put, List.setIfInBounds_toArray, List.set_cons_zero, List.set_cons_succ])
    refine wpAnyH_take (i := 33) (v := .bool true) rfl (by kernel_rfl) (by kernel_rfl) (by kernel_rfl) (fun _ _ _ h => h) (.inl ⟨by rfl, fun _ _ => by kernel_rfl⟩) h11 ?_
    (try simp only [List.getElem_toArray, List.getElem_cons_zero, List.getElem_cons_succ, Act.put, List.setIfInBounds_toArray, List.set_cons_zero, List.set_cons_succ])
    refine wpAnyH_take (i := 34) (v := .agg (pgL A n c en tp)) rfl (by kernel_rfl) (by kernel_rfl) (by kernel_rfl) (fun _ _ _ h => h) (yieldsIf_loadP (by rfl) _ rfl rfl (fun _ q => plane_load (HC.out.below q HC.out.lt))) h11 ?_
    (try simp only [List.getElem_toArray, List.getElem_cons_zero, List.getElem_cons_succ, Act.put, List.setIfInBounds_toArray, List.set_cons_zero, List.set_cons_succ])
    refine wpAnyH_take (i := 35) (v := .int .i64 slot) rfl (by kernel_rfl) (by kernel_rfl) (by kernel_rfl) (fun _ _ _ h => h) (.inl ⟨by rfl, fun _ _ => by kernel_rfl⟩) h11 ?_
    (try simp only [List.getElem_toArray, List.getElem_cons_zero, List.getElem_cons_succ, Act.put, List.setIfInBounds_toArray, List.set_cons_zero, List.set_cons_succ])
    refine wpAnyH_take (i := 36) (v := .int .i64 level) rfl (by kernel_rfl) (by kernel_rfl) (by kernel_rfl) (fun _ _ _ h => h) (.inl ⟨by rfl, fun _ _ => by kernel_rfl⟩) h11 ?_
    (try simp only [List.getElem_toArray, List.getElem_cons_zero, List.getElem_cons_succ, Act.put, List.setIfInBounds_toArray, List.set_cons_zero, List.set_cons_succ])
    refine wpAnyH_take (i := 38) (v := .agg (pgL A n c en tp)) rfl (by kernel_rfl) (by kernel_rfl) (by kernel_rfl) (fun _ _ _ h => h) (yieldsIf_loadP (by rfl) _ rfl rfl (fun _ q => plane_load (HC.out.below q HC.out.lt))) h11 ?_
    (try simp only [List.getElem_toArray, List.getElem_cons_zero, List.getElem_cons_succ, Act.put, List.setIfInBounds_toArray, List.set_cons_zero, List.set_cons_succ])
    refine wpAnyH_take (i := 39) (v := .int .i64 slot) rfl (by kernel_rfl) (by kernel_rfl) (by kernel_rfl) (fun _ _ _ h => h) (.inl ⟨by rfl, fun _ _ => by kernel_rfl⟩) h11 ?_
    (try simp only [List.getElem_toArray, List.getElem_cons_zero, List.getElem_cons_succ, Act.put, List.setIfInBounds_toArray, List.set_cons_zero, List.set_cons_succ])
    refine wpAnyH_take (i := 40) (v := .int .i64 level) rfl (by kernel_rfl) (by kernel_rfl) (by kernel_rfl) (fun _ _ _ h => h) (.inl ⟨by rfl, fun _ _ => by kernel_rfl⟩) h11 ?_
    (try simp only [List.getElem_toArray, List.getElem_cons_zero, List.getElem_cons_succ, Act.put, List.setIfInBounds_toArray, List.set_cons_zero, List.set_cons_succ])
    refine wpAnyH_call 37 31 #[.agg (pgL A n c en tp), .int .i64 slot, .int .i64 level] _ (by kernel_rfl) (by rfl) (by kernel_rfl) (by kernel_rfl) (pl_near A n c ns en tp slot level _ (HG.out.on h11 h11.size)) ?_
    rintro e Z12 ⟨A12, m12, d12, rfl, ho12, bz⟩
    have h12 : Below w2.heap.size w2 Z12 := h11.trans (bz.mono h11.size)
    have R12 := Lib.hid ho12.rd
    have L12 := Lib.hid ho12.len
    clear ho12
    clear bz
    refine ⟨_, rfl, h12, ?_⟩
    clear h11
    (try simp only [List.getElem_toArray, List.getElem_cons_zero, List.getElem_cons_succ, Act.put, List.setIfInBounds_toArray, List.set_cons_zero, List.set_cons_succ])
    refine wpAnyH_call 41 32 #[.agg (pgL A n c en tp), .int .i64 slot, .int .i64 level] _ (by kernel_rfl) (by rfl) (by kernel_rfl) (by kernel_rfl) (rf_near A n c ns en tp slot level _ (HG.out.on h12 h12.size)) ?_
    rintro e Z13 ⟨A13, m13, d13, rfl, ho13, bz⟩
    have h13 : Below w2.heap.size w2 Z13 := h12.trans (bz.mono h12.size)
    replace R12 := Lib.hid ((R12.out.below bz).more bz.size)
    have R13 := Lib.hid ho13.rd
    have L13 := Lib.hid ho13.len
    clear ho13
    clear bz
    refine ⟨_, rfl, h13, ?_⟩
    clear h12
    (try simp only [List.getElem_toArray, List.getElem_cons_zero, List.getElem_cons_succ, Act.put, List.setIfInBounds_toArray, List.set_cons_zero, List.set_cons_succ])
    refine wpAnyH_call 42 26 #[.slice A12 m12 d12, .slice A13 m13 d13] _ (by kernel_rfl) (by rfl) (by kernel_rfl) (by kernel_rfl) (same_ints A12 A13 m12 m13 d12 d13 _ _ _ _ R12.out R13.out (by have := L12.out; have h2 := HLN.out; omega) (by have := L13.out; have h2 := HLN.out; omega)) ?_
    rintro e Z14 ⟨rfl, q, rfl⟩
    have h14 := below_drewN h13 q
    rw [same_refl]
    refine ⟨_, rfl, h14, ?_⟩
    clear h13 R12 R13 L12 L13
    (try simp only [List.getElem_toArray, List.getElem_cons_zero, List.getElem_cons_succ, Act.put, List.setIfInBounds_toArray, List.set_cons_zero, List.set_cons_succ])
    refine wpAnyH_take (i := 43) (v := .bool true) rfl (by kernel_rfl) (by kernel_rfl) (by kernel_rfl) (fun _ _ _ h => h) (.inl ⟨by rfl, fun _ _ => by kernel_rfl⟩) h14 ?_
    (try simp only [List.getElem_toArray, List.getElem_cons_zero, List.getElem_cons_succ, Act.put, List.setIfInBounds_toArray, List.set_cons_zero, List.set_cons_succ])
    refine wpAnyH_take (i := 44) (v := .bool true) rfl (by kernel_rfl) (by kernel_rfl) (by kernel_rfl) (fun _ _ _ h => h) (.inl ⟨by rfl, fun _ _ => by kernel_rfl⟩) h14 ?_
    (try simp only [List.getElem_toArray, List.getElem_cons_zero, List.getElem_cons_succ, Act.put, List.setIfInBounds_toArray, List.set_cons_zero, List.set_cons_succ])
    refine wpAnyH_done (by kernel_rfl) ?_ _
    have HBZ := Lib.hid (HB2.out.trans (h14.mono HB2.out.size))
    clear h14
    go_wp2_with fail
    go_ret
    exact ⟨rfl, HBZ.out⟩
end Go.Proofs.Ytkhnnjeinpojkaa
