/- Getter: the document's New; answers at hand; whether answers are few. -/
import Derived.Test.YtkhnnjeinpojkaaGtU
import Derived.Laws.AppendOwnNone
namespace Go.Proofs.Ytkhnnjeinpojkaa
open Go.RowKit
theorem VV.slice {w : World} {V : Value} {vec : List Int} (h : VV w V vec) : ∃ A n c, V = .slice A n c := by obtain ⟨A, n, c, e, _⟩ := h; exact ⟨A, n, c, e⟩
/-- A block whose cells are no numbers of vectors has no vector. -/
theorem VV.notBlk {w : World} {V : Value} {vec : List Int} (h : VV w V vec) {g t : Nat} {cs : Array Value} (hb : Blk w g t cs) (hc : ∀ u ∈ cs.toList, ∀ z, u ≠ .int .i32 z) : NotAt g V := by
  obtain ⟨A, n, c, rfl, _, _, hr⟩ := h
  intro b o m n' c' e h0 q
  injection e with e1 e2 e3
  subst e2
  obtain ⟨b', o', e', _, hx⟩ := hr.atI (k := 0) h0
  rw [e'] at e1
  injection e1 with e1
  injection e1 with e1 e2 e3
  subst e1 q
  rw [hb.cell] at hx
  exact hc _ (by rw [Array.getElem?_eq_some_iff] at hx; obtain ⟨hl, hx⟩ := hx; rw [← hx]; exact Array.getElem_mem_toList hl) _ rfl
theorem task_no (c : Tk) (s : Ts) (hV : ∃ A n p, c.V = .slice A n p) (hT : ∃ A n p, s.TV = .slice A n p) : ∀ u ∈ (taskA c s).toList, ∀ z, u ≠ .int .i32 z := by
  obtain ⟨A, n, p, hV⟩ := hV
  obtain ⟨A', n', p', hT⟩ := hT
  intro u hu z
  simp only [taskA, List.mem_cons, List.not_mem_nil, or_false, hV, hT] at hu
  rcases hu with rfl | rfl | rfl | rfl | rfl | rfl | rfl | rfl | rfl | rfl | rfl | rfl | rfl | rfl | rfl | rfl | rfl | rfl | rfl | rfl | rfl | rfl | rfl | rfl | rfl | rfl | rfl | rfl | rfl | rfl | rfl | rfl | rfl | rfl | rfl | rfl | rfl | rfl <;> simp
theorem doc_no (c : Tk) (x : AS) (TV : Value) (hV : ∃ A n p, c.V = .slice A n p) (hT : ∃ A n p, TV = .slice A n p) : ∀ u ∈ (docA c x TV).toList, ∀ z, u ≠ .int .i32 z := by
  obtain ⟨A, n, p, hV⟩ := hV
  obtain ⟨A', n', p', hT⟩ := hT
  intro u hu z
  simp only [docA, List.mem_cons, List.not_mem_nil, or_false, hV, hT] at hu
  rcases hu with rfl | rfl | rfl | rfl | rfl | rfl | rfl | rfl | rfl | rfl | rfl | rfl | rfl | rfl | rfl | rfl | rfl | rfl | rfl | rfl | rfl | rfl | rfl | rfl | rfl | rfl | rfl <;> simp
theorem At.notAt {w : World} {T : Nat} {c : Tk} {x : AS} (h : At w T c x) (hV : ∃ A n p, c.V = .slice A n p) {V : Value} {vec : List Int} (hv : VV w V vec) : NotAt T V := by
  obtain ⟨TV, h1, h2, _⟩ := h
  exact hv.notBlk h1 (task_no c _ hV h2.slice)
/-- A task stays where others are written. -/
theorem At.tch {w w' : World} {T U : Nat} {c : Tk} {x : AS} (h : At w T c x) (ht : Tch (fun k => k = U) w w') (hn : T ≠ U) (hU : ∀ V vec, VV w V vec → NotAt U V) : At w' T c x := by
  obtain ⟨TV, h1, h2, h3⟩ := h
  exact ⟨TV, h1.tch ht hn, h2.tch ht (hU _ _ h2) (fun _ _ q => q), h3⟩
theorem At.below {w w' : World} {T : Nat} {c : Tk} {x : AS} (h : At w T c x) (hb : Below w.heap.size w w') : At w' T c x := by
  obtain ⟨TV, h1, h2, h3⟩ := h
  exact ⟨TV, Blk.below h1 hb h1.lt, h2.below hb, h3⟩
theorem own_slice {w : World} {base t n : Nat} {v : Value} {vs : List Value} (h : w.ownsRow base t 1 v n vs) : ∃ A n c, v = .slice A n c := by
  rcases h.2 with ⟨rfl, rfl⟩ | ⟨g, cap, cur, rfl, _⟩
  · exact ⟨_, _, _, rfl⟩
  · exact ⟨_, _, _, rfl⟩
set_option maxRecDepth 100000 in
set_option maxHeartbeats 1000000 in
theorem rf_new (k id tags kk ef dr dim : Int) (V : Value) (vec : List Int) (w : World) (hv : VV w V vec) :
    Calls Try.prog 13 #[.agg (callL k id V tags kk ef dr), .int .i64 dim] w fun e w' => (∃ V', e = .returned (.agg (docA ⟨k, id, V', tags, kk, ef, dr, dim⟩ as0 (.slice none 0 0))) ∧ VV w' V' vec) ∧ Below w.heap.size w w' := by
  obtain ⟨w2, hw2⟩ : ∃ x, (w.alloc (.cells (callL k id V tags kk ef dr) 27)).alloc (.cells docZ 39) = x := ⟨_, rfl⟩
  have s1 : (w.alloc (.cells (callL k id V tags kk ef dr) 27)).heap.size = w.heap.size + 1 := by simp only [World.alloc, Array.size_push]
  have C2 : Blk w2 w.heap.size 27 (callL k id V tags kk ef dr) := by rw [← hw2]; exact (Blk.new _ _ _).alloc _
  have D2 : Blk w2 (w.heap.size + 1) 39 docZ := by rw [← hw2, ← s1]; exact Blk.new _ _ _
  have b2 : Below w.heap.size w w2 := by rw [← hw2]; exact ((Below.refl _ w).alloc (Nat.le_refl _) _).alloc (by rw [s1]; omega) _
  have z2 : w2.heap.size = w.heap.size + 2 := by rw [← hw2]; simp only [World.alloc, Array.size_push]
  obtain ⟨A, n, c, rfl, hn, hnil, hr⟩ := hv.below b2
  have hV2 : VV w2 (.slice A n c) vec := ⟨A, n, c, rfl, hn, hnil, hr⟩
  have c2 : w2.cell? ⟨w.heap.size, 2, none⟩ = some (.slice A n c) := C2.cell 2
  have cf := C2.frozen
  have bE : Below w2.heap.size w2 (w2.alloc (.cells #[] 21)) := (Below.refl _ _).alloc (Nat.le_refl _) _
  have hown : Hid ((w2.alloc (.cells #[] 21)).ownsRow w2.heap.size 21 1 (.slice (some ⟨w2.heap.size, 0, none⟩) 0 0) 0 []) :=
    ⟨rfl, Or.inr ⟨w2.heap.size, 0, #[], rfl, Nat.le_refl _, heap_alloc_new w2 _, Nat.le_refl _, Nat.zero_le _, rfl, rfl⟩⟩
  obtain ⟨i, hi, hz, hz1, hz2⟩ := info_parts info_i32
  -- behind the append
  have fin : ∀ (w3 : World) (V' : Value), VV w3 V' vec → Below w2.heap.size w2 w3 → ∃ w4 w5 : World, (w3.setCell ⟨w.heap.size, 2, none⟩ V') = w4 ∧ VV w4 V' vec ∧ (w4.setCells (w.heap.size + 1) 0 (docA ⟨k, id, V', tags, kk, ef, dr, dim⟩ as0 (.slice none 0 0)).toList) = w5 ∧
      Blk w4 w.heap.size 27 (callL k id V' tags kk ef dr) ∧ Blk w4 (w.heap.size + 1) 39 docZ ∧ Blk w5 (w.heap.size + 1) 39 (docA ⟨k, id, V', tags, kk, ef, dr, dim⟩ as0 (.slice none 0 0)) ∧ VV w5 V' vec ∧ Below w.heap.size w w5 := by
    intro w3 V' v3 b3
    have C3 := C2.below b3 C2.lt
    have D3 := D2.below b3 D2.lt
    have n3 := v3.notBlk C3 (by
      intro u hu z
      simp only [callL, List.mem_cons, List.not_mem_nil, or_false] at hu
      rcases hu with rfl | rfl | rfl | rfl | rfl | rfl | rfl <;> simp)
    have t4 : Tch (fun k => k = w.heap.size) w3 (w3.setCell ⟨w.heap.size, 2, none⟩ V') := Tch.setCell (S := fun k => k = w.heap.size) (Tch.refl _ w3) (g := w.heap.size) rfl 2 _
    have v4 := v3.tch t4 n3 (fun _ _ q => q)
    have C4 : Blk (w3.setCell ⟨w.heap.size, 2, none⟩ V') w.heap.size 27 (callL k id V' tags kk ef dr) := C3.set_ 2 _
    have D4 := D3.tch t4 (by omega)
    have b4 : Below w.heap.size w (w3.setCell ⟨w.heap.size, 2, none⟩ V') := (b2.trans (b3.mono b2.size)).trans (t4.below (by have := b3.size; omega) (fun k q => by omega))
    refine ⟨_, _, rfl, v4, rfl, C4, D4, D4.putA _ rfl, v4.tch (Tch.setCells (S := fun k => k = w.heap.size + 1) (g := w.heap.size + 1) rfl _ _ _ (Tch.refl _ _)) (v4.notBlk D4 ?_) (fun _ _ q => q), below_put b4 (Nat.le_refl _) (by omega) _ _⟩
    intro u hu z
    simp only [docZ, List.mem_cons, List.not_mem_nil, or_false] at hu
    rcases hu with rfl | rfl | rfl | rfl | rfl | rfl | rfl | rfl | rfl | rfl | rfl | rfl | rfl | rfl | rfl | rfl | rfl | rfl | rfl | rfl | rfl | rfl | rfl | rfl | rfl | rfl | rfl <;> simp
  have HF := Lib.hid fin
  have HB := Lib.hid bE
  have HN := Lib.hid hn
  have HC2 := Lib.hid C2
  have HD2 := Lib.hid D2
  have e2 : (w2.alloc (.cells #[] 21)).cell? ⟨w.heap.size, 2, none⟩ = some (.slice A n c) := (C2.alloc _).cell 2
  have HNIL := Lib.hid hnil
  have HZ2 := Lib.hid z2
  clear z2 s1
  have cl : vec.length = n := hr.lenI
  have CL := Lib.hid cl
  have HBE : Hid (w2.heap.size ≤ (w2.alloc (.cells #[] 21)).heap.size) := bE.size
  have HV := Lib.hid hV2
  have h63 : Hid (0 + n ≤ maxLen) := by show _ ≤ _; unfold maxLen; omega
  have hby : Hid ((0 + n) * 4 ≤ 140737488355328) := by show _ ≤ _; omega
  have ef2 : ∀ i, (w2.alloc (.cells #[] 21)).frozen? ⟨w.heap.size, i, none⟩ = false := (C2.alloc _).frozen
  clear fin bE hn C2 D2 b2 cl hnil hV2 hv hr
  cases A with
  | none =>
    obtain ⟨rfl, rfl⟩ := HNIL.out rfl
    have hvec : vec = [] := List.eq_nil_of_length_eq_zero CL.out
    subst hvec
    clear HNIL CL ef2 cf
    unfold callL docZ at hw2
    unfold callL
    go_enter Try.func13, Try.ntmps13
    go_upto_region 1 with fail
    (try rw [hw2])
    clear hw2
    have VIN : VV (w2.alloc (.cells #[] 21)) (.slice (some ⟨w2.heap.size, 0, none⟩) 0 0) [] := own_vv hown.out (by decide)
    have BIN := HB.out
    go_upto_region 2 with (at_builtin; refine wpList_append_own_none rfl (.tmp 5) (.tmp 8) 23 rfl w2.heap.size 21 i 1 Try.underlying23 hi _ 0 [] rfl hown.out rfl ?_; obtain ⟨w3, hw3⟩ : ∃ x, w2.alloc (.cells #[] 21) = x := ⟨_, rfl⟩; rw [hw3] at VIN BIN ⊢; have C3 := HC2.out.below BIN HC2.out.lt; have c3 : w3.cell? ⟨w.heap.size, 2, none⟩ = some (.slice none 0 0) := C3.cell 2; have f3 := C3.frozen; replace VIN := Lib.hid VIN; replace BIN := Lib.hid BIN; clear C3; clear hw3)
    obtain ⟨w4, w5, h4, v4, h5, C4, D4, D5, v5, b5⟩ := HF.out w3 (.slice (some ⟨w2.heap.size, 0, none⟩) 0 0) VIN.out BIN.out
    have L4 : (Instr.loadAt 27 (.pointer (some ⟨w.heap.size, 0, none⟩))).run Try.prog w4 = .ok (.agg (callL k id (.slice (some ⟨w2.heap.size, 0, none⟩) 0 0) tags kk ef dr)) w4 := row_load C4 Try.underlying27 rfl callT
    have S4 := doc_store D4 rfl ⟨k, id, .slice (some ⟨w2.heap.size, 0, none⟩) 0 0, tags, kk, ef, dr, dim⟩ as0 (.slice none 0 0) rfl rfl
    rw [h5] at S4
    have HD5 := Lib.hid D5
    have HV5 := Lib.hid v5
    have HB5 := Lib.hid b5
    unfold callL at L4
    (try rw [h4])
    clear h4 h5 C4 D4 D5 v5 b5 v4 HF VIN BIN c3 f3 e2 c2
    go_wp2_with (first | refine wpList_loadE L4 _ rfl rfl rfl ?_ | refine wpList_storeE S4 _ _ rfl rfl rfl rfl ?_)
    refine bodyPost_ret (v := .agg (docA ⟨k, id, .slice (some ⟨w2.heap.size, 0, none⟩) 0 0, tags, kk, ef, dr, dim⟩ as0 (.slice none 0 0))) ?_ rfl ⟨⟨_, rfl, HV5.out⟩, HB5.out⟩
    exact results_cell_row (P := Try.prog) Try.results13 _ w5 (w.heap.size + 1) _ _ _ _ rfl HD5.out Try.underlying39 rfl docT
  | some a =>
    have hall : Hid ((∀ j u, (vec.map (Value.int .i32))[j]? = some u → (w2.alloc (.cells #[] 21)).cell? (Addr.add a j) = some u) ∧ (∀ u ∈ vec.map (Value.int .i32), u.oneCell' = true) ∧ (vec.map (Value.int .i32)).length = n * 1) := by
      have hr := HV.out
      obtain ⟨A, n', c', e, _, _, hr⟩ := hr
      injection e with e1 e2 e3
      subst e1 e2 e3
      by_cases h0 : n = 0
      · subst h0
        have hvec : vec = [] := List.eq_nil_of_length_eq_zero CL.out
        subst hvec
        exact ⟨by simp, by simp, rfl⟩
      · obtain ⟨b, o, e, _, _⟩ := hr.atI (k := 0) (by omega)
        injection e with e
        subst e
        obtain ⟨f1, f2, f3⟩ := clone_facts hr HN.out
        exact ⟨f2, f3, f1⟩
    clear HNIL CL ef2 cf
    unfold callL docZ at hw2
    unfold callL
    go_enter Try.func13, Try.ntmps13
    go_upto_region 1 with fail
    (try rw [hw2])
    clear hw2
    go_upto_region 2 with (at_builtin; refine wpList_append_own _ rfl (.tmp 5) (.tmp 8) 23 rfl w2.heap.size 21 i (.int .i32 0) 1 4 Try.underlying23 hi hz hz1 hz2 rfl (by decide) (.slice (some ⟨w2.heap.size, 0, none⟩) 0 0) 0 [] (by simp [Act.eval]) hown.out a n c (vec.map (.int .i32)) (by simp [Act.eval]) hall.out.2.2 hall.out.1 hall.out.2.1 h63.out hby.out HBE.out ?_; intro V' w3 ho hg _; obtain ⟨A', n', c', rfl⟩ := own_slice ho; have VIN : VV w3 (.slice A' n' c') vec := (by rw [List.nil_append, Nat.zero_add] at ho; exact own_vv ho HN.out); have BIN : Below w2.heap.size w2 w3 := HB.out.grown hg HB.out.size (fun k hk => (by injection hk with hk; exact Nat.le_of_eq hk)); clear ho hg; have C3 := HC2.out.below BIN HC2.out.lt; have c3 : w3.cell? ⟨w.heap.size, 2, none⟩ = some (.slice (some a) n c) := C3.cell 2; have f3 := C3.frozen; replace VIN := Lib.hid VIN; replace BIN := Lib.hid BIN; clear C3)
    obtain ⟨w4, w5, h4, v4, h5, C4, D4, D5, v5, b5⟩ := HF.out w3 (.slice A' n' c') VIN.out BIN.out
    have L4 : (Instr.loadAt 27 (.pointer (some ⟨w.heap.size, 0, none⟩))).run Try.prog w4 = .ok (.agg (callL k id (.slice A' n' c') tags kk ef dr)) w4 := row_load C4 Try.underlying27 rfl callT
    have S4 := doc_store D4 rfl ⟨k, id, .slice A' n' c', tags, kk, ef, dr, dim⟩ as0 (.slice none 0 0) rfl rfl
    rw [h5] at S4
    have HD5 := Lib.hid D5
    have HV5 := Lib.hid v5
    have HB5 := Lib.hid b5
    unfold callL at L4
    (try rw [h4])
    clear h4 h5 C4 D4 D5 v5 b5 v4 HF VIN BIN c3 f3 e2 c2
    go_wp2_with (first | refine wpList_loadE L4 _ rfl rfl rfl ?_ | refine wpList_storeE S4 _ _ rfl rfl rfl rfl ?_)
    refine bodyPost_ret (v := .agg (docA ⟨k, id, .slice A' n' c', tags, kk, ef, dr, dim⟩ as0 (.slice none 0 0))) ?_ rfl ⟨⟨_, rfl, HV5.out⟩, HB5.out⟩
    exact results_cell_row (P := Try.prog) Try.results13 _ w5 (w.heap.size + 1) _ _ _ _ rfl HD5.out Try.underlying39 rfl docT
end Go.Proofs.Ytkhnnjeinpojkaa
