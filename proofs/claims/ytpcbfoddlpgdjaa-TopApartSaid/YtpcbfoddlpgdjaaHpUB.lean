/- Heaps: up, down, push, pop. -/
import Derived.Test.YtpcbfoddlpgdjaaHpLP
import Derived.Shelf.Abstract
namespace Go.Proofs.Ytpcbfoddlpgdjaa
open Go.RowKit
theorem HeldS.set {w : World} {g n k : Nat} {l : List Sp} (x : Sp) (h : HeldS w g n l) (hk : k < n) : HeldS (w.setCells g (k * 3) (spC x).toList) g n (l.set k x) := by
  obtain ⟨C, h1, h2, h3⟩ := h
  obtain ⟨C', e1, e2, e3⟩ := blk_mid h1 (k * 3) (spC x).toList (by rw [h2]; show k * 3 + 3 ≤ _; omega)
  refine ⟨C', e1, by rw [e2, h2], fun i y hy j u hu => ?_⟩
  have hj : j < 3 := (List.getElem?_eq_some_iff.1 hu).1
  rw [e3]
  by_cases hi : i = k
  · subst hi
    have hl : i < l.length := by have := (List.getElem?_eq_some_iff.1 hy).1; simpa using this
    rw [List.getElem?_set_self hl] at hy
    injection hy with hy
    subst hy
    rw [if_pos ⟨by omega, by show _ < _ + 3; omega⟩, show i * 3 + j - i * 3 = j by omega]
    exact hu
  · rw [if_neg (by show ¬ (_ ∧ _ < _ + 3); omega)]
    rw [List.getElem?_set_ne (Ne.symm hi)] at hy
    exact h3 i y hy j u hu
theorem HeldS.load {w : World} {g n k : Nat} {l : List Sp} (h : HeldS w g n l) (hk : k < l.length) : (Instr.loadAt 35 (.pointer (some ⟨g, 0 + k * 3, none⟩))).run Try.prog w = .ok (spV (sg l k)) w := by
  obtain ⟨C, h1, h2, h3⟩ := h
  exact sp_loadB fun j v hv => by rw [h1.cell, Nat.zero_add]; exact h3 k _ (sg_at hk) j v hv
theorem HeldS.tch1 {w w' : World} {g n : Nat} {l : List Sp} {S : Nat → Prop} (h : HeldS w g n l) (hT : Tch S w w') (hg : ¬ S g) : HeldS w' g n l := by
  obtain ⟨C, h1, h2, h3⟩ := h
  exact ⟨C, h1.tch hT hg, h2, h3⟩
theorem HeldS.lt {w : World} {g n : Nat} {l : List Sp} (h : HeldS w g n l) : g < w.heap.size := by obtain ⟨C, h1, _⟩ := h; exact h1.lt
theorem load_spots {w : World} {b o : Nat} {A : Option Addr} {n c : Nat} (h : w.cell? ⟨b, o, none⟩ = some (.slice A n c)) : (Instr.loadAt 25 (.pointer (some ⟨b, o, none⟩))).run Try.prog w = .ok (.slice A n c) w := by
  simp [go_sem, h]
theorem load_ahead {w : World} {b o : Nat} {f : Fn} {cs ts : Array Value} (h : w.cell? ⟨b, o, none⟩ = some (.func f cs ts)) : (Instr.loadAt 51 (.pointer (some ⟨b, o, none⟩))).run Try.prog w = .ok (.func f cs ts) w := by
  simp [go_sem, h]
theorem run_callv {P : Program} {o : Oper} {a : Act} {f : FuncId} {x s t : Operand} {T U : TypeId} {u v : Value} (hE : Enters P f) (ho : o.op = .call { callee := .value x, args := #[s, t], argTypes := #[T, U] }) (hx : a.eval x = .func (.func f) #[] #[]) (hs : a.eval s = u) (ht : a.eval t = v) (w : World) : (execOp a.eval o).run P w = .ok (.enter f #[u, v]) w := by
  generalize a.eval = ev at hx hs ht
  unfold execOp
  simp only [ho]
  simp [go_sem, hx, hs, ht, hE #[u, v] w]
/-- What 'ahead' is. -/
def AhF (f : FuncId) (ah : Sp → Sp → Bool) : Prop := Enters Try.prog f ∧ ∀ (a b : Sp) (w : World), Calls Try.prog f #[spV a, spV b] w fun e w' => e = .returned (.bool (ah a b)) ∧ Gw w w'
def fvA (f : FuncId) : Value := .func (.func f) #[] #[]
section
variable {P : Program} {ops : Array Oper} {S : World → Prop} {o : Oper} {a : Act} {t t' : TypeId} {m n : Int}
theorem yieldsIf_addC {z : Int} (hr : IntKind.i64.wrap (m + n) = z) (hw : Region.wanted o (yielded ops a.tmps) = true) (x y : Operand) (ho : o.op = .binOp .add t x y t') (hx : a.eval x = .int .i64 m) (hy : a.eval y = .int .i64 n) : YieldsIf P ops S o (.int .i64 z) a := by
  refine .inl ⟨hw, fun w _ => ?_⟩
  unfold execOp
  simp only [ho, hx, hy]
  simp [go_sem, ← hr]
theorem yieldsIf_lssC {k : IntKind} {r : Bool} (hr : decide (m < n) = r) (hw : Region.wanted o (yielded ops a.tmps) = true) (x y : Operand) (ho : o.op = .binOp .lss t x y t') (hx : a.eval x = .int k m) (hy : a.eval y = .int k n) : YieldsIf P ops S o (.bool r) a := by
  refine .inl ⟨hw, fun w _ => ?_⟩
  unfold execOp
  simp only [ho, hx, hy]
  simp [go_sem, ← hr]
end
set_option maxRecDepth 100000 in
set_option maxHeartbeats 8000000 in
/-- A spot rises. -/
theorem hp_up {f : FuncId} {ah : Sp → Sp → Bool} (hF : AhF f ah) (ho : Tot ah) {hb T g n c i0 : Nat} {C : Array Value} {L0 : List Sp} (w : World) (hB : Blk w hb T C) (hC0 : C[0]? = some (.slice (some ⟨g, 0, none⟩) n c)) (hC1 : C[1]? = some (fvA f)) (hne : hb ≠ g)
    (hS : HeldS w g c L0) (hl : L0.length = n) (hnc : n ≤ c) (hn : n ≤ 1048576) (hU : UpI ah L0 L0 i0) :
    Calls Try.prog 47 #[.pointer (some ⟨hb, 0, none⟩), .int .i64 (i0 : Nat)] w (fun e w' => e = .returned (.tuple #[]) ∧ ∃ L, L.Perm L0 ∧ Hp ah L ∧ HeldS w' g c L ∧ Tch (fun k => k = g) w w') := by
  have HHF := Lib.hid hF
  have HOO := Lib.hid ho
  have HKB := Lib.hid hB
  have HC0 := Lib.hid hC0
  have HC1 := Lib.hid hC1
  have HNE := Lib.hid hne
  have HNC : Hid (n ≤ c ∧ n ≤ 1048576) := ⟨hnc, hn⟩
  have HL0 := Lib.hid hl
  have HS0 := Lib.hid hS
  have HU0 := Lib.hid hU
  clear hF ho hB hC0 hC1 hne hS hl hnc hn hU
  go_enter Try.func47, Try.ntmps47
  go_wp2_with fail
  go_loopw [1, 4] (fun s1 _ wr => ∃ (i : Nat) (L : List Sp), s1 = .int .i64 (i : Nat) ∧ Hid (UpI ah L0 L i) ∧ Hid (HeldS wr g c L) ∧ Hid (Tch (fun k => k = g) w wr)) (fun s1 _ _ => (intOf s1).toNat)
  case atStart => exact ⟨i0, L0, rfl, HU0.out, HS0.out, Tch.refl _ _⟩
  case round =>
    obtain ⟨i, L, rfl, HU, HS, HT⟩ := hrel
    obtain rfl | hi := Nat.eq_zero_or_pos i
    · go_wp2_with fail
      go_end0
      exact ⟨rfl, L, HU.out.pm, HU.out.stop (.inl rfl), HS.out, HT.out⟩
    · have hil : L.length = n := by rw [HU.out.pm.length_eq, HL0.out]
      have hin : i < n := by rw [← hil]; exact HU.out.lt
      obtain ⟨p, hp⟩ : ∃ p, (i - 1) / 2 = p := ⟨_, rfl⟩
      have hpi : p < i := by omega
      have tp : decide (0 < i) = true := decide_eq_true hi
      have e1 : wrap64 ((i : Int) - 1) = ((i - 1 : Nat) : Int) := by unfold wrap64; have := HNC.out; omega
      have e2 : wrap64 (((i - 1 : Nat) : Int) / 2) = ((p : Nat) : Int) := by unfold wrap64; have := HNC.out; omega
      have HP := Lib.hid hp
      have HPI := Lib.hid hpi
      have HIN := Lib.hid hin
      have HIL := Lib.hid hil
      have HI0 := Lib.hid hi
      clear hp hpi hil hin hi
      go_upto_region 2 with fail
      (try simp only [e1, e2])
      have HPN : Hid (p < n) := by have h1 := HIN.out; have h2 := HPI.out; show _ < _; omega
      have HIL2 : Hid (i < L.length) := by rw [HIL.out]; exact HIN.out
      have HPL2 : Hid (p < L.length) := by rw [HIL.out]; exact HPN.out
      have HIC : Hid (i < c) := by have h1 := HIN.out; have h2 := HNC.out; show _ < _; omega
      have HPC : Hid (p < c) := by have h1 := HPN.out; have h2 := HNC.out; show _ < _; omega
      have HKW : Hid (Blk wr hb T C) := HKB.out.tch HT.out HNE.out
      clear e1 e2 tp
      cases ta : ah (sg L i) (sg L p)
      · refine wp_region_held_drew (S := fun w' => Below wr.heap.size wr w') (by kernel_rfl) (below_drewN (Below.refl _ _) 1) (fun hH => ?_)
        refine wpAnyH_take (i := 0) (v := .pointer (some ⟨hb, 0, none⟩)) rfl (by kernel_rfl) (by kernel_rfl) (by kernel_rfl) (fun _ _ _ h => h) (.inl ⟨by rfl, fun _ _ => by kernel_rfl⟩) hH ?_
        (try simp only [List.getElem_toArray, List.getElem_cons_zero, Act.put, List.setIfInBounds_toArray, List.set_cons_zero, List.set_cons_succ])
        refine wpAnyH_take (i := 1) (v := .pointer (some ⟨hb, 0, none⟩)) rfl (by kernel_rfl) (by kernel_rfl) (by kernel_rfl) (fun _ _ _ h => h) (.inl ⟨by rfl, fun _ _ => by kernel_rfl⟩) hH ?_
        (try simp only [List.getElem_toArray, List.getElem_cons_zero, List.getElem_cons_succ, Act.put, List.setIfInBounds_toArray, List.set_cons_zero, List.set_cons_succ])
        refine wpAnyH_take (i := 2) (v := .pointer (some ⟨hb, 1, none⟩)) rfl (by kernel_rfl) (by kernel_rfl) (by kernel_rfl) (fun _ _ _ h => h) (.inl ⟨by rfl, fun _ _ => by kernel_rfl⟩) hH ?_
        (try simp only [List.getElem_toArray, List.getElem_cons_zero, List.getElem_cons_succ, Act.put, List.setIfInBounds_toArray, List.set_cons_zero, List.set_cons_succ])
        refine wpAnyH_take (i := 3) (v := fvA f) rfl (by kernel_rfl) (by kernel_rfl) (by kernel_rfl) (fun _ _ _ h => h) (yieldsIf_loadP (by rfl) _ rfl rfl (fun _ s => load_ahead (((HKW.out.below s HKW.out.lt).cell 1).trans HC1.out))) hH ?_
        (try simp only [List.getElem_toArray, List.getElem_cons_zero, List.getElem_cons_succ, Act.put, List.setIfInBounds_toArray, List.set_cons_zero, List.set_cons_succ])
        refine wpAnyH_take (i := 4) (v := .pointer (some ⟨hb, 0, none⟩)) rfl (by kernel_rfl) (by kernel_rfl) (by kernel_rfl) (fun _ _ _ h => h) (.inl ⟨by rfl, fun _ _ => by kernel_rfl⟩) hH ?_
        (try simp only [List.getElem_toArray, List.getElem_cons_zero, List.getElem_cons_succ, Act.put, List.setIfInBounds_toArray, List.set_cons_zero, List.set_cons_succ])
        refine wpAnyH_take (i := 5) (v := .pointer (some ⟨hb, 0, none⟩)) rfl (by kernel_rfl) (by kernel_rfl) (by kernel_rfl) (fun _ _ _ h => h) (.inl ⟨by rfl, fun _ _ => by kernel_rfl⟩) hH ?_
        (try simp only [List.getElem_toArray, List.getElem_cons_zero, List.getElem_cons_succ, Act.put, List.setIfInBounds_toArray, List.set_cons_zero, List.set_cons_succ])
        refine wpAnyH_take (i := 6) (v := .pointer (some ⟨hb, 0, none⟩)) rfl (by kernel_rfl) (by kernel_rfl) (by kernel_rfl) (fun _ _ _ h => h) (.inl ⟨by rfl, fun _ _ => by kernel_rfl⟩) hH ?_
        (try simp only [List.getElem_toArray, List.getElem_cons_zero, List.getElem_cons_succ, Act.put, List.setIfInBounds_toArray, List.set_cons_zero, List.set_cons_succ])
        refine wpAnyH_take (i := 7) (v := .slice (some ⟨g, 0, none⟩) n c) rfl (by kernel_rfl) (by kernel_rfl) (by kernel_rfl) (fun _ _ _ h => h) (yieldsIf_loadP (by rfl) _ rfl rfl (fun _ s => load_spots (((HKW.out.below s HKW.out.lt).cell 0).trans HC0.out))) hH ?_
        (try simp only [List.getElem_toArray, List.getElem_cons_zero, List.getElem_cons_succ, Act.put, List.setIfInBounds_toArray, List.set_cons_zero, List.set_cons_succ])
        refine wpAnyH_take (i := 8) (v := .int .i64 ((i : Nat) : Int)) rfl (by kernel_rfl) (by kernel_rfl) (by kernel_rfl) (fun _ _ _ h => h) (.inl ⟨by rfl, fun _ _ => by kernel_rfl⟩) hH ?_
        (try simp only [List.getElem_toArray, List.getElem_cons_zero, List.getElem_cons_succ, Act.put, List.setIfInBounds_toArray, List.set_cons_zero, List.set_cons_succ])
        refine wpAnyH_take (i := 9) (v := .pointer (some ⟨g, 0 + i * 3, none⟩)) rfl (by kernel_rfl) (by kernel_rfl) (by kernel_rfl) (fun _ _ _ h => h) (yieldsIf_indexS Try.underlying25 sizeSpE (by rfl) _ _ rfl rfl rfl HIN.out) hH ?_
        (try simp only [List.getElem_toArray, List.getElem_cons_zero, List.getElem_cons_succ, Act.put, List.setIfInBounds_toArray, List.set_cons_zero, List.set_cons_succ])
        refine wpAnyH_take (i := 10) (v := spV (sg L i)) rfl (by kernel_rfl) (by kernel_rfl) (by kernel_rfl) (fun _ _ _ h => h) (yieldsIf_loadP (by rfl) _ rfl rfl (fun _ s => (HS.out.tch s HS.out.lt).load HIL2.out)) hH ?_
        (try simp only [List.getElem_toArray, List.getElem_cons_zero, List.getElem_cons_succ, Act.put, List.setIfInBounds_toArray, List.set_cons_zero, List.set_cons_succ])
        refine wpAnyH_take (i := 11) (v := .pointer (some ⟨hb, 0, none⟩)) rfl (by kernel_rfl) (by kernel_rfl) (by kernel_rfl) (fun _ _ _ h => h) (.inl ⟨by rfl, fun _ _ => by kernel_rfl⟩) hH ?_
        (try simp only [List.getElem_toArray, List.getElem_cons_zero, List.getElem_cons_succ, Act.put, List.setIfInBounds_toArray, List.set_cons_zero, List.set_cons_succ])
        refine wpAnyH_take (i := 12) (v := .pointer (some ⟨hb, 0, none⟩)) rfl (by kernel_rfl) (by kernel_rfl) (by kernel_rfl) (fun _ _ _ h => h) (.inl ⟨by rfl, fun _ _ => by kernel_rfl⟩) hH ?_
        (try simp only [List.getElem_toArray, List.getElem_cons_zero, List.getElem_cons_succ, Act.put, List.setIfInBounds_toArray, List.set_cons_zero, List.set_cons_succ])
        refine wpAnyH_take (i := 13) (v := .pointer (some ⟨hb, 0, none⟩)) rfl (by kernel_rfl) (by kernel_rfl) (by kernel_rfl) (fun _ _ _ h => h) (.inl ⟨by rfl, fun _ _ => by kernel_rfl⟩) hH ?_
        (try simp only [List.getElem_toArray, List.getElem_cons_zero, List.getElem_cons_succ, Act.put, List.setIfInBounds_toArray, List.set_cons_zero, List.set_cons_succ])
        refine wpAnyH_take (i := 14) (v := .slice (some ⟨g, 0, none⟩) n c) rfl (by kernel_rfl) (by kernel_rfl) (by kernel_rfl) (fun _ _ _ h => h) (yieldsIf_loadP (by rfl) _ rfl rfl (fun _ s => load_spots (((HKW.out.below s HKW.out.lt).cell 0).trans HC0.out))) hH ?_
        (try simp only [List.getElem_toArray, List.getElem_cons_zero, List.getElem_cons_succ, Act.put, List.setIfInBounds_toArray, List.set_cons_zero, List.set_cons_succ])
        refine wpAnyH_take (i := 15) (v := .int .i64 ((p : Nat) : Int)) rfl (by kernel_rfl) (by kernel_rfl) (by kernel_rfl) (fun _ _ _ h => h) (.inl ⟨by rfl, fun _ _ => by kernel_rfl⟩) hH ?_
        (try simp only [List.getElem_toArray, List.getElem_cons_zero, List.getElem_cons_succ, Act.put, List.setIfInBounds_toArray, List.set_cons_zero, List.set_cons_succ])
        refine wpAnyH_take (i := 16) (v := .pointer (some ⟨g, 0 + p * 3, none⟩)) rfl (by kernel_rfl) (by kernel_rfl) (by kernel_rfl) (fun _ _ _ h => h) (yieldsIf_indexS Try.underlying25 sizeSpE (by rfl) _ _ rfl rfl rfl HPN.out) hH ?_
        (try simp only [List.getElem_toArray, List.getElem_cons_zero, List.getElem_cons_succ, Act.put, List.setIfInBounds_toArray, List.set_cons_zero, List.set_cons_succ])
        refine wpAnyH_take (i := 17) (v := spV (sg L p)) rfl (by kernel_rfl) (by kernel_rfl) (by kernel_rfl) (fun _ _ _ h => h) (yieldsIf_loadP (by rfl) _ rfl rfl (fun _ s => (HS.out.tch s HS.out.lt).load HPL2.out)) hH ?_
        (try simp only [List.getElem_toArray, List.getElem_cons_zero, List.getElem_cons_succ, Act.put, List.setIfInBounds_toArray, List.set_cons_zero, List.set_cons_succ])
        refine wpAnyH_call 18 f #[spV (sg L i), spV (sg L p)] _ (by kernel_rfl) (by rfl) (by kernel_rfl) (run_callv HHF.out.1 (by rfl) (by rfl) (by rfl) (by rfl) _) (HHF.out.2 _ _ _) ?_
        rintro e Z1 ⟨rfl, g1⟩
        rw [ta]
        have h1 := hH.trans (g1.below.mono hH.size)
        refine ⟨_, rfl, h1, ?_⟩
        (try simp only [List.getElem_toArray, List.getElem_cons_zero, List.getElem_cons_succ, Act.put, List.setIfInBounds_toArray, List.set_cons_zero, List.set_cons_succ])
        refine wpAnyH_take (i := 19) (v := .bool true) rfl (by kernel_rfl) (by kernel_rfl) (by kernel_rfl) (fun _ _ _ h => h) (.inl ⟨by rfl, fun _ _ => by kernel_rfl⟩) h1 ?_
        (try simp only [List.getElem_toArray, List.getElem_cons_zero, List.getElem_cons_succ, Act.put, List.setIfInBounds_toArray, List.set_cons_zero, List.set_cons_succ])
        refine wpAnyH_done (by kernel_rfl) ?_ _
        go_wp2_with fail
        (try simp only [Exit.inBlock, Exit.then])
        refine bodyPost_ret (results_none rfl _ _ _) rfl ?_
        exact ⟨rfl, L, HU.out.pm, HU.out.stop (.inr (by rw [HP.out]; exact ta)), HS.out.tch h1 HS.out.lt, HT.out.trans (Tch.of_below (S := fun _ => False) h1) (fun k q => q.elim)⟩
      · refine wp_region_held_drew (S := fun w' => Below wr.heap.size wr w') (by kernel_rfl) (below_drewN (Below.refl _ _) 1) (fun hH => ?_)
        refine wpAnyH_take (i := 0) (v := .pointer (some ⟨hb, 0, none⟩)) rfl (by kernel_rfl) (by kernel_rfl) (by kernel_rfl) (fun _ _ _ h => h) (.inl ⟨by rfl, fun _ _ => by kernel_rfl⟩) hH ?_
        (try simp only [List.getElem_toArray, List.getElem_cons_zero, Act.put, List.setIfInBounds_toArray, List.set_cons_zero, List.set_cons_succ])
        refine wpAnyH_take (i := 1) (v := .pointer (some ⟨hb, 0, none⟩)) rfl (by kernel_rfl) (by kernel_rfl) (by kernel_rfl) (fun _ _ _ h => h) (.inl ⟨by rfl, fun _ _ => by kernel_rfl⟩) hH ?_
        (try simp only [List.getElem_toArray, List.getElem_cons_zero, List.getElem_cons_succ, Act.put, List.setIfInBounds_toArray, List.set_cons_zero, List.set_cons_succ])
        refine wpAnyH_take (i := 2) (v := .pointer (some ⟨hb, 1, none⟩)) rfl (by kernel_rfl) (by kernel_rfl) (by kernel_rfl) (fun _ _ _ h => h) (.inl ⟨by rfl, fun _ _ => by kernel_rfl⟩) hH ?_
        (try simp only [List.getElem_toArray, List.getElem_cons_zero, List.getElem_cons_succ, Act.put, List.setIfInBounds_toArray, List.set_cons_zero, List.set_cons_succ])
        refine wpAnyH_take (i := 3) (v := fvA f) rfl (by kernel_rfl) (by kernel_rfl) (by kernel_rfl) (fun _ _ _ h => h) (yieldsIf_loadP (by rfl) _ rfl rfl (fun _ s => load_ahead (((HKW.out.below s HKW.out.lt).cell 1).trans HC1.out))) hH ?_
        (try simp only [List.getElem_toArray, List.getElem_cons_zero, List.getElem_cons_succ, Act.put, List.setIfInBounds_toArray, List.set_cons_zero, List.set_cons_succ])
        refine wpAnyH_take (i := 4) (v := .pointer (some ⟨hb, 0, none⟩)) rfl (by kernel_rfl) (by kernel_rfl) (by kernel_rfl) (fun _ _ _ h => h) (.inl ⟨by rfl, fun _ _ => by kernel_rfl⟩) hH ?_
        (try simp only [List.getElem_toArray, List.getElem_cons_zero, List.getElem_cons_succ, Act.put, List.setIfInBounds_toArray, List.set_cons_zero, List.set_cons_succ])
        refine wpAnyH_take (i := 5) (v := .pointer (some ⟨hb, 0, none⟩)) rfl (by kernel_rfl) (by kernel_rfl) (by kernel_rfl) (fun _ _ _ h => h) (.inl ⟨by rfl, fun _ _ => by kernel_rfl⟩) hH ?_
        (try simp only [List.getElem_toArray, List.getElem_cons_zero, List.getElem_cons_succ, Act.put, List.setIfInBounds_toArray, List.set_cons_zero, List.set_cons_succ])
        refine wpAnyH_take (i := 6) (v := .pointer (some ⟨hb, 0, none⟩)) rfl (by kernel_rfl) (by kernel_rfl) (by kernel_rfl) (fun _ _ _ h => h) (.inl ⟨by rfl, fun _ _ => by kernel_rfl⟩) hH ?_
        (try simp only [List.getElem_toArray, List.getElem_cons_zero, List.getElem_cons_succ, Act.put, List.setIfInBounds_toArray, List.set_cons_zero, List.set_cons_succ])
        refine wpAnyH_take (i := 7) (v := .slice (some ⟨g, 0, none⟩) n c) rfl (by kernel_rfl) (by kernel_rfl) (by kernel_rfl) (fun _ _ _ h => h) (yieldsIf_loadP (by rfl) _ rfl rfl (fun _ s => load_spots (((HKW.out.below s HKW.out.lt).cell 0).trans HC0.out))) hH ?_
        (try simp only [List.getElem_toArray, List.getElem_cons_zero, List.getElem_cons_succ, Act.put, List.setIfInBounds_toArray, List.set_cons_zero, List.set_cons_succ])
        refine wpAnyH_take (i := 8) (v := .int .i64 ((i : Nat) : Int)) rfl (by kernel_rfl) (by kernel_rfl) (by kernel_rfl) (fun _ _ _ h => h) (.inl ⟨by rfl, fun _ _ => by kernel_rfl⟩) hH ?_
        (try simp only [List.getElem_toArray, List.getElem_cons_zero, List.getElem_cons_succ, Act.put, List.setIfInBounds_toArray, List.set_cons_zero, List.set_cons_succ])
        refine wpAnyH_take (i := 9) (v := .pointer (some ⟨g, 0 + i * 3, none⟩)) rfl (by kernel_rfl) (by kernel_rfl) (by kernel_rfl) (fun _ _ _ h => h) (yieldsIf_indexS Try.underlying25 sizeSpE (by rfl) _ _ rfl rfl rfl HIN.out) hH ?_
        (try simp only [List.getElem_toArray, List.getElem_cons_zero, List.getElem_cons_succ, Act.put, List.setIfInBounds_toArray, List.set_cons_zero, List.set_cons_succ])
        refine wpAnyH_take (i := 10) (v := spV (sg L i)) rfl (by kernel_rfl) (by kernel_rfl) (by kernel_rfl) (fun _ _ _ h => h) (yieldsIf_loadP (by rfl) _ rfl rfl (fun _ s => (HS.out.tch s HS.out.lt).load HIL2.out)) hH ?_
        (try simp only [List.getElem_toArray, List.getElem_cons_zero, List.getElem_cons_succ, Act.put, List.setIfInBounds_toArray, List.set_cons_zero, List.set_cons_succ])
        refine wpAnyH_take (i := 11) (v := .pointer (some ⟨hb, 0, none⟩)) rfl (by kernel_rfl) (by kernel_rfl) (by kernel_rfl) (fun _ _ _ h => h) (.inl ⟨by rfl, fun _ _ => by kernel_rfl⟩) hH ?_
        (try simp only [List.getElem_toArray, List.getElem_cons_zero, List.getElem_cons_succ, Act.put, List.setIfInBounds_toArray, List.set_cons_zero, List.set_cons_succ])
        refine wpAnyH_take (i := 12) (v := .pointer (some ⟨hb, 0, none⟩)) rfl (by kernel_rfl) (by kernel_rfl) (by kernel_rfl) (fun _ _ _ h => h) (.inl ⟨by rfl, fun _ _ => by kernel_rfl⟩) hH ?_
        (try simp only [List.getElem_toArray, List.getElem_cons_zero, List.getElem_cons_succ, Act.put, List.setIfInBounds_toArray, List.set_cons_zero, List.set_cons_succ])
        refine wpAnyH_take (i := 13) (v := .pointer (some ⟨hb, 0, none⟩)) rfl (by kernel_rfl) (by kernel_rfl) (by kernel_rfl) (fun _ _ _ h => h) (.inl ⟨by rfl, fun _ _ => by kernel_rfl⟩) hH ?_
        (try simp only [List.getElem_toArray, List.getElem_cons_zero, List.getElem_cons_succ, Act.put, List.setIfInBounds_toArray, List.set_cons_zero, List.set_cons_succ])
        refine wpAnyH_take (i := 14) (v := .slice (some ⟨g, 0, none⟩) n c) rfl (by kernel_rfl) (by kernel_rfl) (by kernel_rfl) (fun _ _ _ h => h) (yieldsIf_loadP (by rfl) _ rfl rfl (fun _ s => load_spots (((HKW.out.below s HKW.out.lt).cell 0).trans HC0.out))) hH ?_
        (try simp only [List.getElem_toArray, List.getElem_cons_zero, List.getElem_cons_succ, Act.put, List.setIfInBounds_toArray, List.set_cons_zero, List.set_cons_succ])
        refine wpAnyH_take (i := 15) (v := .int .i64 ((p : Nat) : Int)) rfl (by kernel_rfl) (by kernel_rfl) (by kernel_rfl) (fun _ _ _ h => h) (.inl ⟨by rfl, fun _ _ => by kernel_rfl⟩) hH ?_
        (try simp only [List.getElem_toArray, List.getElem_cons_zero, List.getElem_cons_succ, Act.put, List.setIfInBounds_toArray, List.set_cons_zero, List.set_cons_succ])
        refine wpAnyH_take (i := 16) (v := .pointer (some ⟨g, 0 + p * 3, none⟩)) rfl (by kernel_rfl) (by kernel_rfl) (by kernel_rfl) (fun _ _ _ h => h) (yieldsIf_indexS Try.underlying25 sizeSpE (by rfl) _ _ rfl rfl rfl HPN.out) hH ?_
        (try simp only [List.getElem_toArray, List.getElem_cons_zero, List.getElem_cons_succ, Act.put, List.setIfInBounds_toArray, List.set_cons_zero, List.set_cons_succ])
        refine wpAnyH_take (i := 17) (v := spV (sg L p)) rfl (by kernel_rfl) (by kernel_rfl) (by kernel_rfl) (fun _ _ _ h => h) (yieldsIf_loadP (by rfl) _ rfl rfl (fun _ s => (HS.out.tch s HS.out.lt).load HPL2.out)) hH ?_
        (try simp only [List.getElem_toArray, List.getElem_cons_zero, List.getElem_cons_succ, Act.put, List.setIfInBounds_toArray, List.set_cons_zero, List.set_cons_succ])
        refine wpAnyH_call 18 f #[spV (sg L i), spV (sg L p)] _ (by kernel_rfl) (by rfl) (by kernel_rfl) (run_callv HHF.out.1 (by rfl) (by rfl) (by rfl) (by rfl) _) (HHF.out.2 _ _ _) ?_
        rintro e Z1 ⟨rfl, g1⟩
        rw [ta]
        have h1 := hH.trans (g1.below.mono hH.size)
        refine ⟨_, rfl, h1, ?_⟩
        (try simp only [List.getElem_toArray, List.getElem_cons_zero, List.getElem_cons_succ, Act.put, List.setIfInBounds_toArray, List.set_cons_zero, List.set_cons_succ])
        refine wpAnyH_take (i := 19) (v := .bool false) rfl (by kernel_rfl) (by kernel_rfl) (by kernel_rfl) (fun _ _ _ h => h) (.inl ⟨by rfl, fun _ _ => by kernel_rfl⟩) h1 ?_
        (try simp only [List.getElem_toArray, List.getElem_cons_zero, List.getElem_cons_succ, Act.put, List.setIfInBounds_toArray, List.set_cons_zero, List.set_cons_succ])
        refine wpAnyH_done (by kernel_rfl) ?_ _
        have HKW2 : Hid (Blk Z1 hb T C) := HKW.out.below h1 HKW.out.lt
        have HSW : Hid (HeldS Z1.drew g c L) := HS.out.tch (w' := Z1.drew) (below_drewN h1 1) HS.out.lt
        have HTW : Hid (Tch (fun k => k = g) wr Z1) := Tch.of_below h1
        clear h1 g1
        go_upto_region 3 with fail
        refine wp_region_held_drew (S := fun w' => Tch (fun k => k = g) Z1 w') (by kernel_rfl) ((Tch.refl _ Z1).drewN 1) (fun hH2 => ?_)
        refine wpAnyH_take (i := 0) (v := .pointer (some ⟨hb, 0, none⟩)) rfl (by kernel_rfl) (by kernel_rfl) (by kernel_rfl) (fun _ _ _ h => h) (.inl ⟨by rfl, fun _ _ => by kernel_rfl⟩) hH2 ?_
        (try simp only [List.getElem_toArray, List.getElem_cons_zero, Act.put, List.setIfInBounds_toArray, List.set_cons_zero, List.set_cons_succ])
        refine wpAnyH_take (i := 1) (v := .pointer (some ⟨hb, 0, none⟩)) rfl (by kernel_rfl) (by kernel_rfl) (by kernel_rfl) (fun _ _ _ h => h) (.inl ⟨by rfl, fun _ _ => by kernel_rfl⟩) hH2 ?_
        (try simp only [List.getElem_toArray, List.getElem_cons_zero, List.getElem_cons_succ, Act.put, List.setIfInBounds_toArray, List.set_cons_zero, List.set_cons_succ])
        refine wpAnyH_take (i := 2) (v := .pointer (some ⟨hb, 0, none⟩)) rfl (by kernel_rfl) (by kernel_rfl) (by kernel_rfl) (fun _ _ _ h => h) (.inl ⟨by rfl, fun _ _ => by kernel_rfl⟩) hH2 ?_
        (try simp only [List.getElem_toArray, List.getElem_cons_zero, List.getElem_cons_succ, Act.put, List.setIfInBounds_toArray, List.set_cons_zero, List.set_cons_succ])
        refine wpAnyH_take (i := 3) (v := .slice (some ⟨g, 0, none⟩) n c) rfl (by kernel_rfl) (by kernel_rfl) (by kernel_rfl) (fun _ _ _ h => h) (yieldsIf_loadP (by rfl) _ rfl rfl (fun _ s => load_spots (((HKW2.out.tch s HNE.out).cell 0).trans HC0.out))) hH2 ?_
        (try simp only [List.getElem_toArray, List.getElem_cons_zero, List.getElem_cons_succ, Act.put, List.setIfInBounds_toArray, List.set_cons_zero, List.set_cons_succ])
        refine wpAnyH_take (i := 4) (v := .int .i64 ((i : Nat) : Int)) rfl (by kernel_rfl) (by kernel_rfl) (by kernel_rfl) (fun _ _ _ h => h) (.inl ⟨by rfl, fun _ _ => by kernel_rfl⟩) hH2 ?_
        (try simp only [List.getElem_toArray, List.getElem_cons_zero, List.getElem_cons_succ, Act.put, List.setIfInBounds_toArray, List.set_cons_zero, List.set_cons_succ])
        refine wpAnyH_take (i := 5) (v := .pointer (some ⟨hb, 0, none⟩)) rfl (by kernel_rfl) (by kernel_rfl) (by kernel_rfl) (fun _ _ _ h => h) (.inl ⟨by rfl, fun _ _ => by kernel_rfl⟩) hH2 ?_
        (try simp only [List.getElem_toArray, List.getElem_cons_zero, List.getElem_cons_succ, Act.put, List.setIfInBounds_toArray, List.set_cons_zero, List.set_cons_succ])
        refine wpAnyH_take (i := 6) (v := .pointer (some ⟨hb, 0, none⟩)) rfl (by kernel_rfl) (by kernel_rfl) (by kernel_rfl) (fun _ _ _ h => h) (.inl ⟨by rfl, fun _ _ => by kernel_rfl⟩) hH2 ?_
        (try simp only [List.getElem_toArray, List.getElem_cons_zero, List.getElem_cons_succ, Act.put, List.setIfInBounds_toArray, List.set_cons_zero, List.set_cons_succ])
        refine wpAnyH_take (i := 7) (v := .pointer (some ⟨hb, 0, none⟩)) rfl (by kernel_rfl) (by kernel_rfl) (by kernel_rfl) (fun _ _ _ h => h) (.inl ⟨by rfl, fun _ _ => by kernel_rfl⟩) hH2 ?_
        (try simp only [List.getElem_toArray, List.getElem_cons_zero, List.getElem_cons_succ, Act.put, List.setIfInBounds_toArray, List.set_cons_zero, List.set_cons_succ])
        refine wpAnyH_take (i := 8) (v := .slice (some ⟨g, 0, none⟩) n c) rfl (by kernel_rfl) (by kernel_rfl) (by kernel_rfl) (fun _ _ _ h => h) (yieldsIf_loadP (by rfl) _ rfl rfl (fun _ s => load_spots (((HKW2.out.tch s HNE.out).cell 0).trans HC0.out))) hH2 ?_
        (try simp only [List.getElem_toArray, List.getElem_cons_zero, List.getElem_cons_succ, Act.put, List.setIfInBounds_toArray, List.set_cons_zero, List.set_cons_succ])
        refine wpAnyH_take (i := 9) (v := .int .i64 ((p : Nat) : Int)) rfl (by kernel_rfl) (by kernel_rfl) (by kernel_rfl) (fun _ _ _ h => h) (.inl ⟨by rfl, fun _ _ => by kernel_rfl⟩) hH2 ?_
        (try simp only [List.getElem_toArray, List.getElem_cons_zero, List.getElem_cons_succ, Act.put, List.setIfInBounds_toArray, List.set_cons_zero, List.set_cons_succ])
        refine wpAnyH_take (i := 10) (v := .pointer (some ⟨hb, 0, none⟩)) rfl (by kernel_rfl) (by kernel_rfl) (by kernel_rfl) (fun _ _ _ h => h) (.inl ⟨by rfl, fun _ _ => by kernel_rfl⟩) hH2 ?_
        (try simp only [List.getElem_toArray, List.getElem_cons_zero, List.getElem_cons_succ, Act.put, List.setIfInBounds_toArray, List.set_cons_zero, List.set_cons_succ])
        refine wpAnyH_take (i := 11) (v := .pointer (some ⟨hb, 0, none⟩)) rfl (by kernel_rfl) (by kernel_rfl) (by kernel_rfl) (fun _ _ _ h => h) (.inl ⟨by rfl, fun _ _ => by kernel_rfl⟩) hH2 ?_
        (try simp only [List.getElem_toArray, List.getElem_cons_zero, List.getElem_cons_succ, Act.put, List.setIfInBounds_toArray, List.set_cons_zero, List.set_cons_succ])
        refine wpAnyH_take (i := 12) (v := .pointer (some ⟨hb, 0, none⟩)) rfl (by kernel_rfl) (by kernel_rfl) (by kernel_rfl) (fun _ _ _ h => h) (.inl ⟨by rfl, fun _ _ => by kernel_rfl⟩) hH2 ?_
        (try simp only [List.getElem_toArray, List.getElem_cons_zero, List.getElem_cons_succ, Act.put, List.setIfInBounds_toArray, List.set_cons_zero, List.set_cons_succ])
        refine wpAnyH_take (i := 13) (v := .slice (some ⟨g, 0, none⟩) n c) rfl (by kernel_rfl) (by kernel_rfl) (by kernel_rfl) (fun _ _ _ h => h) (yieldsIf_loadP (by rfl) _ rfl rfl (fun _ s => load_spots (((HKW2.out.tch s HNE.out).cell 0).trans HC0.out))) hH2 ?_
        (try simp only [List.getElem_toArray, List.getElem_cons_zero, List.getElem_cons_succ, Act.put, List.setIfInBounds_toArray, List.set_cons_zero, List.set_cons_succ])
        refine wpAnyH_take (i := 14) (v := .int .i64 ((p : Nat) : Int)) rfl (by kernel_rfl) (by kernel_rfl) (by kernel_rfl) (fun _ _ _ h => h) (.inl ⟨by rfl, fun _ _ => by kernel_rfl⟩) hH2 ?_
        (try simp only [List.getElem_toArray, List.getElem_cons_zero, List.getElem_cons_succ, Act.put, List.setIfInBounds_toArray, List.set_cons_zero, List.set_cons_succ])
        refine wpAnyH_take (i := 15) (v := .pointer (some ⟨g, 0 + p * 3, none⟩)) rfl (by kernel_rfl) (by kernel_rfl) (by kernel_rfl) (fun _ _ _ h => h) (yieldsIf_indexS Try.underlying25 sizeSpE (by rfl) _ _ rfl rfl rfl HPN.out) hH2 ?_
        (try simp only [List.getElem_toArray, List.getElem_cons_zero, List.getElem_cons_succ, Act.put, List.setIfInBounds_toArray, List.set_cons_zero, List.set_cons_succ])
        refine wpAnyH_take (i := 17) (v := .pointer (some ⟨hb, 0, none⟩)) rfl (by kernel_rfl) (by kernel_rfl) (by kernel_rfl) (fun _ _ _ h => h) (.inl ⟨by rfl, fun _ _ => by kernel_rfl⟩) hH2 ?_
        (try simp only [List.getElem_toArray, List.getElem_cons_zero, List.getElem_cons_succ, Act.put, List.setIfInBounds_toArray, List.set_cons_zero, List.set_cons_succ])
        refine wpAnyH_take (i := 18) (v := .pointer (some ⟨hb, 0, none⟩)) rfl (by kernel_rfl) (by kernel_rfl) (by kernel_rfl) (fun _ _ _ h => h) (.inl ⟨by rfl, fun _ _ => by kernel_rfl⟩) hH2 ?_
        (try simp only [List.getElem_toArray, List.getElem_cons_zero, List.getElem_cons_succ, Act.put, List.setIfInBounds_toArray, List.set_cons_zero, List.set_cons_succ])
        refine wpAnyH_take (i := 19) (v := .pointer (some ⟨hb, 0, none⟩)) rfl (by kernel_rfl) (by kernel_rfl) (by kernel_rfl) (fun _ _ _ h => h) (.inl ⟨by rfl, fun _ _ => by kernel_rfl⟩) hH2 ?_
        (try simp only [List.getElem_toArray, List.getElem_cons_zero, List.getElem_cons_succ, Act.put, List.setIfInBounds_toArray, List.set_cons_zero, List.set_cons_succ])
        refine wpAnyH_take (i := 20) (v := .slice (some ⟨g, 0, none⟩) n c) rfl (by kernel_rfl) (by kernel_rfl) (by kernel_rfl) (fun _ _ _ h => h) (yieldsIf_loadP (by rfl) _ rfl rfl (fun _ s => load_spots (((HKW2.out.tch s HNE.out).cell 0).trans HC0.out))) hH2 ?_
        (try simp only [List.getElem_toArray, List.getElem_cons_zero, List.getElem_cons_succ, Act.put, List.setIfInBounds_toArray, List.set_cons_zero, List.set_cons_succ])
        refine wpAnyH_take (i := 21) (v := .int .i64 ((i : Nat) : Int)) rfl (by kernel_rfl) (by kernel_rfl) (by kernel_rfl) (fun _ _ _ h => h) (.inl ⟨by rfl, fun _ _ => by kernel_rfl⟩) hH2 ?_
        (try simp only [List.getElem_toArray, List.getElem_cons_zero, List.getElem_cons_succ, Act.put, List.setIfInBounds_toArray, List.set_cons_zero, List.set_cons_succ])
        refine wpAnyH_take (i := 22) (v := .pointer (some ⟨g, 0 + i * 3, none⟩)) rfl (by kernel_rfl) (by kernel_rfl) (by kernel_rfl) (fun _ _ _ h => h) (yieldsIf_indexS Try.underlying25 sizeSpE (by rfl) _ _ rfl rfl rfl HIN.out) hH2 ?_
        (try simp only [List.getElem_toArray, List.getElem_cons_zero, List.getElem_cons_succ, Act.put, List.setIfInBounds_toArray, List.set_cons_zero, List.set_cons_succ])
        refine wpAnyH_all (rs := [16, 23]) (by kernel_rfl) (by simp) (fun i9 hi9 => ?_)
        rcases (by simpa using hi9 : i9 = 16 ∨ i9 = 23) with rfl | rfl
        · refine wpOp_value (spV (sg L p)) (by rfl) (by kernel_rfl) (exec_loadK (by rfl) (by rfl) (HSW.out.load HPL2.out)) ⟨hH2, ?_⟩
          (try simp only [List.getElem_toArray, List.getElem_cons_zero, List.getElem_cons_succ, Act.put, List.setIfInBounds_toArray, List.set_cons_zero, List.set_cons_succ])
          refine wpAnyH_value 23 (spV (sg L i)) (by kernel_rfl) (by rfl) (by kernel_rfl) (exec_loadK (by rfl) (by rfl) (HSW.out.load HIL2.out)) hH2 ?_
          (try simp only [List.getElem_toArray, List.getElem_cons_zero, List.getElem_cons_succ, Act.put, List.setIfInBounds_toArray, List.set_cons_zero, List.set_cons_succ])
          refine wpAnyH_take (i := 24) (v := .pointer (some ⟨g, 0 + i * 3, none⟩)) rfl (by kernel_rfl) (by kernel_rfl) (by kernel_rfl) (fun _ _ _ h => h) (yieldsIf_indexS Try.underlying25 sizeSpE (by rfl) _ _ rfl rfl rfl HIN.out) hH2 ?_
          (try simp only [List.getElem_toArray, List.getElem_cons_zero, List.getElem_cons_succ, Act.put, List.setIfInBounds_toArray, List.set_cons_zero, List.set_cons_succ])
          have hH3 : Tch (fun k => k = g) Z1 (Z1.drew.setCells g (i * 3) (spC (sg L p)).toList) := Tch.setCells (S := fun k => k = g) rfl _ _ _ hH2
          refine wpAnyH_store 25 _ _ _ (by kernel_rfl) (by rfl) (by kernel_rfl) (by rfl) (by rfl) (by rfl) (HSW.out.store (sg L p) HIC.out) hH3 ?_
          (try simp only [List.getElem_toArray, List.getElem_cons_zero, List.getElem_cons_succ, Act.put])
          refine wpAnyH_take (i := 26) (v := .pointer (some ⟨g, 0 + p * 3, none⟩)) rfl (by kernel_rfl) (by kernel_rfl) (by kernel_rfl) (fun _ _ _ h => h) (yieldsIf_indexS Try.underlying25 sizeSpE (by rfl) _ _ rfl rfl rfl HPN.out) hH3 ?_
          (try simp only [List.getElem_toArray, List.getElem_cons_zero, List.getElem_cons_succ, Act.put, List.setIfInBounds_toArray, List.set_cons_zero, List.set_cons_succ])
          refine wpAnyH_store 27 _ _ _ (by kernel_rfl) (by rfl) (by kernel_rfl) (by rfl) (by rfl) (by rfl) ((HSW.out.set (sg L p) HIC.out).store (sg L i) HPC.out) (Tch.setCells (S := fun k => k = g) rfl _ _ _ hH3) ?_
          (try simp only [List.getElem_toArray, List.getElem_cons_zero, List.getElem_cons_succ, Act.put])
          refine wpAnyH_done (by kernel_rfl) ?_ _
          have HSV := Lib.hid ((HSW.out.set (sg L p) HIC.out).set (sg L i) HPC.out)
          have HTV : Hid (Tch (fun k => k = g) Z1 _) := Tch.setCells (S := fun k => k = g) rfl ((spC (sg L i)).toList) (p * 3) _ hH3
          go_wp2_with fail
          go_roundw
          case rel => exact ⟨p, swp L i p, rfl, HU.out.step HOO.out HI0.out HP.out ta, HSV.out, (HT.out.trans HTW.out (fun k q => .inl q)).trans HTV.out (fun k q => .inl q)⟩
          case measure => have := HPI.out; simp [intOf]; omega
        · refine wpOp_value (spV (sg L i)) (by rfl) (by kernel_rfl) (exec_loadK (by rfl) (by rfl) (HSW.out.load HIL2.out)) ⟨hH2, ?_⟩
          (try simp only [List.getElem_toArray, List.getElem_cons_zero, List.getElem_cons_succ, Act.put, List.setIfInBounds_toArray, List.set_cons_zero, List.set_cons_succ])
          refine wpAnyH_value 16 (spV (sg L p)) (by kernel_rfl) (by rfl) (by kernel_rfl) (exec_loadK (by rfl) (by rfl) (HSW.out.load HPL2.out)) hH2 ?_
          (try simp only [List.getElem_toArray, List.getElem_cons_zero, List.getElem_cons_succ, Act.put, List.setIfInBounds_toArray, List.set_cons_zero, List.set_cons_succ])
          refine wpAnyH_take (i := 24) (v := .pointer (some ⟨g, 0 + i * 3, none⟩)) rfl (by kernel_rfl) (by kernel_rfl) (by kernel_rfl) (fun _ _ _ h => h) (yieldsIf_indexS Try.underlying25 sizeSpE (by rfl) _ _ rfl rfl rfl HIN.out) hH2 ?_
          (try simp only [List.getElem_toArray, List.getElem_cons_zero, List.getElem_cons_succ, Act.put, List.setIfInBounds_toArray, List.set_cons_zero, List.set_cons_succ])
          have hH3 : Tch (fun k => k = g) Z1 (Z1.drew.setCells g (i * 3) (spC (sg L p)).toList) := Tch.setCells (S := fun k => k = g) rfl _ _ _ hH2
          refine wpAnyH_store 25 _ _ _ (by kernel_rfl) (by rfl) (by kernel_rfl) (by rfl) (by rfl) (by rfl) (HSW.out.store (sg L p) HIC.out) hH3 ?_
          (try simp only [List.getElem_toArray, List.getElem_cons_zero, List.getElem_cons_succ, Act.put])
          refine wpAnyH_take (i := 26) (v := .pointer (some ⟨g, 0 + p * 3, none⟩)) rfl (by kernel_rfl) (by kernel_rfl) (by kernel_rfl) (fun _ _ _ h => h) (yieldsIf_indexS Try.underlying25 sizeSpE (by rfl) _ _ rfl rfl rfl HPN.out) hH3 ?_
          (try simp only [List.getElem_toArray, List.getElem_cons_zero, List.getElem_cons_succ, Act.put, List.setIfInBounds_toArray, List.set_cons_zero, List.set_cons_succ])
          refine wpAnyH_store 27 _ _ _ (by kernel_rfl) (by rfl) (by kernel_rfl) (by rfl) (by rfl) (by rfl) ((HSW.out.set (sg L p) HIC.out).store (sg L i) HPC.out) (Tch.setCells (S := fun k => k = g) rfl _ _ _ hH3) ?_
          (try simp only [List.getElem_toArray, List.getElem_cons_zero, List.getElem_cons_succ, Act.put])
          refine wpAnyH_done (by kernel_rfl) ?_ _
          have HSV := Lib.hid ((HSW.out.set (sg L p) HIC.out).set (sg L i) HPC.out)
          have HTV : Hid (Tch (fun k => k = g) Z1 _) := Tch.setCells (S := fun k => k = g) rfl ((spC (sg L i)).toList) (p * 3) _ hH3
          go_wp2_with fail
          go_roundw
          case rel => exact ⟨p, swp L i p, rfl, HU.out.step HOO.out HI0.out HP.out ta, HSV.out, (HT.out.trans HTW.out (fun k q => .inl q)).trans HTV.out (fun k q => .inl q)⟩
          case measure => have := HPI.out; simp [intOf]; omega
set_option maxRecDepth 100000 in
set_option maxHeartbeats 16000000 in
/-- The first spot sinks. -/
theorem hp_down {f : FuncId} {ah : Sp → Sp → Bool} (hF : AhF f ah) (ho : Tot ah) {hb T g n c : Nat} {C : Array Value} {L0 : List Sp} (w : World) (hB : Blk w hb T C) (hC0 : C[0]? = some (.slice (some ⟨g, 0, none⟩) n c)) (hC1 : C[1]? = some (fvA f)) (hne : hb ≠ g)
    (hS : HeldS w g c L0) (hl : L0.length = n) (hnc : n ≤ c) (hn : n ≤ 1048576) (hU : DnI ah L0 L0 0) :
    Calls Try.prog 46 #[.pointer (some ⟨hb, 0, none⟩)] w (fun e w' => e = .returned (.tuple #[]) ∧ ∃ L, L.Perm L0 ∧ Hp ah L ∧ HeldS w' g c L ∧ Tch (fun k => k = g) w w') := by
  have HHF := Lib.hid hF
  have HOO := Lib.hid ho
  have HKB := Lib.hid hB
  have HC0 := Lib.hid hC0
  have HC1 := Lib.hid hC1
  have HNE := Lib.hid hne
  have HNC : Hid (n ≤ c ∧ n ≤ 1048576) := ⟨hnc, hn⟩
  have HL0 := Lib.hid hl
  have HS0 := Lib.hid hS
  have HU0 := Lib.hid hU
  clear hF ho hB hC0 hC1 hne hS hl hnc hn hU
  go_enter Try.func46, Try.ntmps46
  go_wp2_with fail
  go_loopw [2, 3] (fun s2 _ wr => ∃ (i : Nat) (L : List Sp), i ≤ n ∧ s2 = .int .i64 (i : Nat) ∧ Hid (DnI ah L0 L i) ∧ Hid (HeldS wr g c L) ∧ Hid (Tch (fun k => k = g) w wr)) (fun s2 _ _ => n - (intOf s2).toNat)
  case atStart => exact ⟨0, L0, Nat.zero_le _, rfl, HU0.out, HS0.out, Tch.refl _ _⟩
  case round =>
    obtain ⟨i, L, hin, rfl, HU, HS, HT⟩ := hrel
    have hil : L.length = n := by rw [HU.out.pm.length_eq, HL0.out]
    obtain ⟨k, hk⟩ : ∃ k, 2 * i + 1 = k := ⟨_, rfl⟩
    have HKW : Hid (Blk wr hb T C) := HKB.out.tch HT.out HNE.out
    have hb0 : wr.cell? ⟨hb, 0, none⟩ = some (.slice (some ⟨g, 0, none⟩) n c) := (HKW.out.cell 0).trans HC0.out
    have e1 : wrap64 (2 * (i : Int)) = ((2 * i : Nat) : Int) := by unfold wrap64; have := HNC.out; omega
    have e2 : wrap64 (2 * (i : Int) + 1) = ((k : Nat) : Int) := by unfold wrap64; have := HNC.out; omega
    have HIL := Lib.hid hil
    have HK := Lib.hid hk
    by_cases hkn : k < n
    · have tk : decide (n ≤ k) = false := decide_eq_false (by omega)
      have HKN := Lib.hid hkn
      clear hk hil hkn hin
      go_upto_region 3 with fail
      (try simp only [e1, e2])
      clear e1 e2 tk hb0
      obtain ⟨k1, hk1⟩ : ∃ k1, k + 1 = k1 := ⟨_, rfl⟩
      have HIN : Hid (i < n) := by have h1 := HKN.out; have h2 := HK.out; show _ < _; omega
      have HIL2 : Hid (i < L.length) := by rw [HIL.out]; exact HIN.out
      have HKL2 : Hid (k < L.length) := by rw [HIL.out]; exact HKN.out
      have HIC : Hid (i < c) := by have h1 := HIN.out; have h2 := HNC.out; show _ < _; omega
      have HKC : Hid (k < c) := by have h1 := HKN.out; have h2 := HNC.out; show _ < _; omega
      have HKA : Hid (IntKind.i64.wrap (((k : Nat) : Int) + 1) = ((k1 : Nat) : Int)) := by show _ = _; rw [IntKind.wrap_i64]; have h1 := HKN.out; have h2 := HNC.out; omega
      have HK1 := Lib.hid hk1
      by_cases h3 : k1 < n
      · have H3 : Hid (decide (((k1 : Nat) : Int) < (n : Int)) = true) := decide_eq_true (by omega)
        have HK1N := Lib.hid h3
        have HK1L2 : Hid (k1 < L.length) := by rw [HIL.out]; exact HK1N.out
        have HK1C : Hid (k1 < c) := by have h1 := HK1N.out; have h2 := HNC.out; show _ < _; omega
        clear h3 hk1
        cases tb : ah (sg L k1) (sg L k)
        · have HKK : Hid (0 < k ∧ (k - 1) / 2 = i) := by have h1 := HK.out; show _ ∧ _; omega
          have HCH : Hid (∀ j, 0 < j → j < L.length → (j - 1) / 2 = i → ah (sg L j) (sg L k) = false) := by
            intro j j0 jl jq
            have h1 := HK.out
            have h2 := HK1.out
            rcases (by omega : j = k ∨ j = k1) with rfl | rfl
            · exact HOO.out.irr _
            · exact tb
          refine wp_region_held_drew (S := fun w' => Below wr.heap.size wr w') (by kernel_rfl) (below_drewN (Below.refl _ _) 1) (fun hH => ?_)
          refine wpAnyH_take (i := 0) (v := .int .i64 ((k : Nat) : Int)) rfl (by kernel_rfl) (by kernel_rfl) (by kernel_rfl) (fun _ _ _ h => h) (.inl ⟨by rfl, fun _ _ => by kernel_rfl⟩) hH ?_
          (try simp only [List.getElem_toArray, List.getElem_cons_zero, Act.put, List.setIfInBounds_toArray, List.set_cons_zero, List.set_cons_succ])
          refine wpAnyH_take (i := 1) (v := .int .i64 ((k1 : Nat) : Int)) rfl (by kernel_rfl) (by kernel_rfl) (by kernel_rfl) (fun _ _ _ h => h) (yieldsIf_addC HKA.out (by rfl) _ _ rfl rfl rfl) hH ?_
          (try simp only [List.getElem_toArray, List.getElem_cons_zero, List.getElem_cons_succ, Act.put, List.setIfInBounds_toArray, List.set_cons_zero, List.set_cons_succ])
          refine wpAnyH_take (i := 2) (v := .pointer (some ⟨hb, 0, none⟩)) rfl (by kernel_rfl) (by kernel_rfl) (by kernel_rfl) (fun _ _ _ h => h) (.inl ⟨by rfl, fun _ _ => by kernel_rfl⟩) hH ?_
          (try simp only [List.getElem_toArray, List.getElem_cons_zero, List.getElem_cons_succ, Act.put, List.setIfInBounds_toArray, List.set_cons_zero, List.set_cons_succ])
          refine wpAnyH_take (i := 3) (v := .pointer (some ⟨hb, 0, none⟩)) rfl (by kernel_rfl) (by kernel_rfl) (by kernel_rfl) (fun _ _ _ h => h) (.inl ⟨by rfl, fun _ _ => by kernel_rfl⟩) hH ?_
          (try simp only [List.getElem_toArray, List.getElem_cons_zero, List.getElem_cons_succ, Act.put, List.setIfInBounds_toArray, List.set_cons_zero, List.set_cons_succ])
          refine wpAnyH_take (i := 4) (v := .pointer (some ⟨hb, 0, none⟩)) rfl (by kernel_rfl) (by kernel_rfl) (by kernel_rfl) (fun _ _ _ h => h) (.inl ⟨by rfl, fun _ _ => by kernel_rfl⟩) hH ?_
          (try simp only [List.getElem_toArray, List.getElem_cons_zero, List.getElem_cons_succ, Act.put, List.setIfInBounds_toArray, List.set_cons_zero, List.set_cons_succ])
          refine wpAnyH_take (i := 5) (v := .slice (some ⟨g, 0, none⟩) n c) rfl (by kernel_rfl) (by kernel_rfl) (by kernel_rfl) (fun _ _ _ h => h) (yieldsIf_loadP (by rfl) _ rfl rfl (fun _ s => load_spots (((HKW.out.below s HKW.out.lt).cell 0).trans HC0.out))) hH ?_
          (try simp only [List.getElem_toArray, List.getElem_cons_zero, List.getElem_cons_succ, Act.put, List.setIfInBounds_toArray, List.set_cons_zero, List.set_cons_succ])
          refine wpAnyH_take (i := 6) (v := .int .i64 n) rfl (by kernel_rfl) (by kernel_rfl) (by kernel_rfl) (fun _ _ _ h => h) (.inl ⟨by rfl, fun _ _ => by kernel_rfl⟩) hH ?_
          (try simp only [List.getElem_toArray, List.getElem_cons_zero, List.getElem_cons_succ, Act.put, List.setIfInBounds_toArray, List.set_cons_zero, List.set_cons_succ])
          refine wpAnyH_take (i := 7) (v := .bool true) rfl (by kernel_rfl) (by kernel_rfl) (by kernel_rfl) (fun _ _ _ h => h) (yieldsIf_lssC H3.out (by rfl) _ _ rfl rfl rfl) hH ?_
          (try simp only [List.getElem_toArray, List.getElem_cons_zero, List.getElem_cons_succ, Act.put, List.setIfInBounds_toArray, List.set_cons_zero, List.set_cons_succ])
          refine wpAnyH_take (i := 8) (v := .bool true) rfl (by kernel_rfl) (by kernel_rfl) (by kernel_rfl) (fun _ _ _ h => h) (.inl ⟨by rfl, fun _ _ => by kernel_rfl⟩) hH ?_
          (try simp only [List.getElem_toArray, List.getElem_cons_zero, List.getElem_cons_succ, Act.put, List.setIfInBounds_toArray, List.set_cons_zero, List.set_cons_succ])
          refine wpAnyH_take (i := 9) (v := .pointer (some ⟨hb, 0, none⟩)) rfl (by kernel_rfl) (by kernel_rfl) (by kernel_rfl) (fun _ _ _ h => h) (.inl ⟨by rfl, fun _ _ => by kernel_rfl⟩) hH ?_
          (try simp only [List.getElem_toArray, List.getElem_cons_zero, List.getElem_cons_succ, Act.put, List.setIfInBounds_toArray, List.set_cons_zero, List.set_cons_succ])
          refine wpAnyH_take (i := 10) (v := .pointer (some ⟨hb, 0, none⟩)) rfl (by kernel_rfl) (by kernel_rfl) (by kernel_rfl) (fun _ _ _ h => h) (.inl ⟨by rfl, fun _ _ => by kernel_rfl⟩) hH ?_
          (try simp only [List.getElem_toArray, List.getElem_cons_zero, List.getElem_cons_succ, Act.put, List.setIfInBounds_toArray, List.set_cons_zero, List.set_cons_succ])
          refine wpAnyH_take (i := 11) (v := .pointer (some ⟨hb, 1, none⟩)) rfl (by kernel_rfl) (by kernel_rfl) (by kernel_rfl) (fun _ _ _ h => h) (.inl ⟨by rfl, fun _ _ => by kernel_rfl⟩) hH ?_
          (try simp only [List.getElem_toArray, List.getElem_cons_zero, List.getElem_cons_succ, Act.put, List.setIfInBounds_toArray, List.set_cons_zero, List.set_cons_succ])
          refine wpAnyH_take (i := 12) (v := fvA f) rfl (by kernel_rfl) (by kernel_rfl) (by kernel_rfl) (fun _ _ _ h => h) (yieldsIf_loadP (by rfl) _ rfl rfl (fun _ s => load_ahead (((HKW.out.below s HKW.out.lt).cell 1).trans HC1.out))) hH ?_
          (try simp only [List.getElem_toArray, List.getElem_cons_zero, List.getElem_cons_succ, Act.put, List.setIfInBounds_toArray, List.set_cons_zero, List.set_cons_succ])
          refine wpAnyH_take (i := 13) (v := .pointer (some ⟨hb, 0, none⟩)) rfl (by kernel_rfl) (by kernel_rfl) (by kernel_rfl) (fun _ _ _ h => h) (.inl ⟨by rfl, fun _ _ => by kernel_rfl⟩) hH ?_
          (try simp only [List.getElem_toArray, List.getElem_cons_zero, List.getElem_cons_succ, Act.put, List.setIfInBounds_toArray, List.set_cons_zero, List.set_cons_succ])
          refine wpAnyH_take (i := 14) (v := .pointer (some ⟨hb, 0, none⟩)) rfl (by kernel_rfl) (by kernel_rfl) (by kernel_rfl) (fun _ _ _ h => h) (.inl ⟨by rfl, fun _ _ => by kernel_rfl⟩) hH ?_
          (try simp only [List.getElem_toArray, List.getElem_cons_zero, List.getElem_cons_succ, Act.put, List.setIfInBounds_toArray, List.set_cons_zero, List.set_cons_succ])
          refine wpAnyH_take (i := 15) (v := .pointer (some ⟨hb, 0, none⟩)) rfl (by kernel_rfl) (by kernel_rfl) (by kernel_rfl) (fun _ _ _ h => h) (.inl ⟨by rfl, fun _ _ => by kernel_rfl⟩) hH ?_
          (try simp only [List.getElem_toArray, List.getElem_cons_zero, List.getElem_cons_succ, Act.put, List.setIfInBounds_toArray, List.set_cons_zero, List.set_cons_succ])
          refine wpAnyH_take (i := 16) (v := .slice (some ⟨g, 0, none⟩) n c) rfl (by kernel_rfl) (by kernel_rfl) (by kernel_rfl) (fun _ _ _ h => h) (yieldsIf_loadP (by rfl) _ rfl rfl (fun _ s => load_spots (((HKW.out.below s HKW.out.lt).cell 0).trans HC0.out))) hH ?_
          (try simp only [List.getElem_toArray, List.getElem_cons_zero, List.getElem_cons_succ, Act.put, List.setIfInBounds_toArray, List.set_cons_zero, List.set_cons_succ])
          refine wpAnyH_take (i := 17) (v := .int .i64 ((k : Nat) : Int)) rfl (by kernel_rfl) (by kernel_rfl) (by kernel_rfl) (fun _ _ _ h => h) (.inl ⟨by rfl, fun _ _ => by kernel_rfl⟩) hH ?_
          (try simp only [List.getElem_toArray, List.getElem_cons_zero, List.getElem_cons_succ, Act.put, List.setIfInBounds_toArray, List.set_cons_zero, List.set_cons_succ])
          refine wpAnyH_take (i := 18) (v := .int .i64 ((k1 : Nat) : Int)) rfl (by kernel_rfl) (by kernel_rfl) (by kernel_rfl) (fun _ _ _ h => h) (yieldsIf_addC HKA.out (by rfl) _ _ rfl rfl rfl) hH ?_
          (try simp only [List.getElem_toArray, List.getElem_cons_zero, List.getElem_cons_succ, Act.put, List.setIfInBounds_toArray, List.set_cons_zero, List.set_cons_succ])
          refine wpAnyH_take (i := 19) (v := .pointer (some ⟨g, 0 + k1 * 3, none⟩)) rfl (by kernel_rfl) (by kernel_rfl) (by kernel_rfl) (fun _ _ _ h => h) (yieldsIf_indexS Try.underlying25 sizeSpE (by rfl) _ _ rfl rfl rfl HK1N.out) hH ?_
          (try simp only [List.getElem_toArray, List.getElem_cons_zero, List.getElem_cons_succ, Act.put, List.setIfInBounds_toArray, List.set_cons_zero, List.set_cons_succ])
          refine wpAnyH_take (i := 20) (v := spV (sg L k1)) rfl (by kernel_rfl) (by kernel_rfl) (by kernel_rfl) (fun _ _ _ h => h) (yieldsIf_loadP (by rfl) _ rfl rfl (fun _ s => (HS.out.tch s HS.out.lt).load HK1L2.out)) hH ?_
          (try simp only [List.getElem_toArray, List.getElem_cons_zero, List.getElem_cons_succ, Act.put, List.setIfInBounds_toArray, List.set_cons_zero, List.set_cons_succ])
          refine wpAnyH_take (i := 21) (v := .pointer (some ⟨hb, 0, none⟩)) rfl (by kernel_rfl) (by kernel_rfl) (by kernel_rfl) (fun _ _ _ h => h) (.inl ⟨by rfl, fun _ _ => by kernel_rfl⟩) hH ?_
          (try simp only [List.getElem_toArray, List.getElem_cons_zero, List.getElem_cons_succ, Act.put, List.setIfInBounds_toArray, List.set_cons_zero, List.set_cons_succ])
          refine wpAnyH_take (i := 22) (v := .pointer (some ⟨hb, 0, none⟩)) rfl (by kernel_rfl) (by kernel_rfl) (by kernel_rfl) (fun _ _ _ h => h) (.inl ⟨by rfl, fun _ _ => by kernel_rfl⟩) hH ?_
          (try simp only [List.getElem_toArray, List.getElem_cons_zero, List.getElem_cons_succ, Act.put, List.setIfInBounds_toArray, List.set_cons_zero, List.set_cons_succ])
          refine wpAnyH_take (i := 23) (v := .pointer (some ⟨hb, 0, none⟩)) rfl (by kernel_rfl) (by kernel_rfl) (by kernel_rfl) (fun _ _ _ h => h) (.inl ⟨by rfl, fun _ _ => by kernel_rfl⟩) hH ?_
          (try simp only [List.getElem_toArray, List.getElem_cons_zero, List.getElem_cons_succ, Act.put, List.setIfInBounds_toArray, List.set_cons_zero, List.set_cons_succ])
          refine wpAnyH_take (i := 24) (v := .slice (some ⟨g, 0, none⟩) n c) rfl (by kernel_rfl) (by kernel_rfl) (by kernel_rfl) (fun _ _ _ h => h) (yieldsIf_loadP (by rfl) _ rfl rfl (fun _ s => load_spots (((HKW.out.below s HKW.out.lt).cell 0).trans HC0.out))) hH ?_
          (try simp only [List.getElem_toArray, List.getElem_cons_zero, List.getElem_cons_succ, Act.put, List.setIfInBounds_toArray, List.set_cons_zero, List.set_cons_succ])
          refine wpAnyH_take (i := 25) (v := .int .i64 ((k : Nat) : Int)) rfl (by kernel_rfl) (by kernel_rfl) (by kernel_rfl) (fun _ _ _ h => h) (.inl ⟨by rfl, fun _ _ => by kernel_rfl⟩) hH ?_
          (try simp only [List.getElem_toArray, List.getElem_cons_zero, List.getElem_cons_succ, Act.put, List.setIfInBounds_toArray, List.set_cons_zero, List.set_cons_succ])
          refine wpAnyH_take (i := 26) (v := .pointer (some ⟨g, 0 + k * 3, none⟩)) rfl (by kernel_rfl) (by kernel_rfl) (by kernel_rfl) (fun _ _ _ h => h) (yieldsIf_indexS Try.underlying25 sizeSpE (by rfl) _ _ rfl rfl rfl HKN.out) hH ?_
          (try simp only [List.getElem_toArray, List.getElem_cons_zero, List.getElem_cons_succ, Act.put, List.setIfInBounds_toArray, List.set_cons_zero, List.set_cons_succ])
          refine wpAnyH_take (i := 27) (v := spV (sg L k)) rfl (by kernel_rfl) (by kernel_rfl) (by kernel_rfl) (fun _ _ _ h => h) (yieldsIf_loadP (by rfl) _ rfl rfl (fun _ s => (HS.out.tch s HS.out.lt).load HKL2.out)) hH ?_
          (try simp only [List.getElem_toArray, List.getElem_cons_zero, List.getElem_cons_succ, Act.put, List.setIfInBounds_toArray, List.set_cons_zero, List.set_cons_succ])
          refine wpAnyH_call 28 f #[spV (sg L k1), spV (sg L k)] _ (by kernel_rfl) (by rfl) (by kernel_rfl) (run_callv HHF.out.1 (by rfl) (by rfl) (by rfl) (by rfl) _) (HHF.out.2 _ _ _) ?_
          rintro e Z1 ⟨rfl, g1⟩
          rw [tb]
          have h1 := hH.trans (g1.below.mono hH.size)
          refine ⟨_, rfl, h1, ?_⟩
          (try simp only [List.getElem_toArray, List.getElem_cons_zero, List.getElem_cons_succ, Act.put, List.setIfInBounds_toArray, List.set_cons_zero, List.set_cons_succ])
          refine wpAnyH_take (i := 29) (v := .bool false) rfl (by kernel_rfl) (by kernel_rfl) (by kernel_rfl) (fun _ _ _ h => h) (.inl ⟨by rfl, fun _ _ => by kernel_rfl⟩) h1 ?_
          (try simp only [List.getElem_toArray, List.getElem_cons_zero, List.getElem_cons_succ, Act.put, List.setIfInBounds_toArray, List.set_cons_zero, List.set_cons_succ])
          refine wpAnyH_done (by kernel_rfl) ?_ _
          have HB3 : Hid (Below wr.heap.size wr Z1) := h1
          have HKW3 : Hid (Blk Z1 hb T C) := HKW.out.below HB3.out HKW.out.lt
          have HS3 : Hid (HeldS Z1 g c L) := HS.out.tch HB3.out HS.out.lt
          have HT3 : Hid (Tch (fun k => k = g) w Z1) := HT.out.trans (Tch.of_below (S := fun _ => False) HB3.out) (fun _ q => q.elim)
          go_upto_region 5 with fail
          cases td : ah (sg L k) (sg L i)
          · refine wp_region_held_drew (S := fun w' => Below Z1.heap.size Z1 w') (by kernel_rfl) (below_drewN (Below.refl _ _) 1) (fun hH => ?_)
            refine wpAnyH_take (i := 0) (v := .pointer (some ⟨hb, 0, none⟩)) rfl (by kernel_rfl) (by kernel_rfl) (by kernel_rfl) (fun _ _ _ h => h) (.inl ⟨by rfl, fun _ _ => by kernel_rfl⟩) hH ?_
            (try simp only [List.getElem_toArray, List.getElem_cons_zero, Act.put, List.setIfInBounds_toArray, List.set_cons_zero, List.set_cons_succ])
            refine wpAnyH_take (i := 1) (v := .pointer (some ⟨hb, 0, none⟩)) rfl (by kernel_rfl) (by kernel_rfl) (by kernel_rfl) (fun _ _ _ h => h) (.inl ⟨by rfl, fun _ _ => by kernel_rfl⟩) hH ?_
            (try simp only [List.getElem_toArray, List.getElem_cons_zero, List.getElem_cons_succ, Act.put, List.setIfInBounds_toArray, List.set_cons_zero, List.set_cons_succ])
            refine wpAnyH_take (i := 2) (v := .pointer (some ⟨hb, 1, none⟩)) rfl (by kernel_rfl) (by kernel_rfl) (by kernel_rfl) (fun _ _ _ h => h) (.inl ⟨by rfl, fun _ _ => by kernel_rfl⟩) hH ?_
            (try simp only [List.getElem_toArray, List.getElem_cons_zero, List.getElem_cons_succ, Act.put, List.setIfInBounds_toArray, List.set_cons_zero, List.set_cons_succ])
            refine wpAnyH_take (i := 3) (v := fvA f) rfl (by kernel_rfl) (by kernel_rfl) (by kernel_rfl) (fun _ _ _ h => h) (yieldsIf_loadP (by rfl) _ rfl rfl (fun _ s => load_ahead (((HKW3.out.below s HKW3.out.lt).cell 1).trans HC1.out))) hH ?_
            (try simp only [List.getElem_toArray, List.getElem_cons_zero, List.getElem_cons_succ, Act.put, List.setIfInBounds_toArray, List.set_cons_zero, List.set_cons_succ])
            refine wpAnyH_take (i := 4) (v := .pointer (some ⟨hb, 0, none⟩)) rfl (by kernel_rfl) (by kernel_rfl) (by kernel_rfl) (fun _ _ _ h => h) (.inl ⟨by rfl, fun _ _ => by kernel_rfl⟩) hH ?_
            (try simp only [List.getElem_toArray, List.getElem_cons_zero, List.getElem_cons_succ, Act.put, List.setIfInBounds_toArray, List.set_cons_zero, List.set_cons_succ])
            refine wpAnyH_take (i := 5) (v := .pointer (some ⟨hb, 0, none⟩)) rfl (by kernel_rfl) (by kernel_rfl) (by kernel_rfl) (fun _ _ _ h => h) (.inl ⟨by rfl, fun _ _ => by kernel_rfl⟩) hH ?_
            (try simp only [List.getElem_toArray, List.getElem_cons_zero, List.getElem_cons_succ, Act.put, List.setIfInBounds_toArray, List.set_cons_zero, List.set_cons_succ])
            refine wpAnyH_take (i := 6) (v := .pointer (some ⟨hb, 0, none⟩)) rfl (by kernel_rfl) (by kernel_rfl) (by kernel_rfl) (fun _ _ _ h => h) (.inl ⟨by rfl, fun _ _ => by kernel_rfl⟩) hH ?_
            (try simp only [List.getElem_toArray, List.getElem_cons_zero, List.getElem_cons_succ, Act.put, List.setIfInBounds_toArray, List.set_cons_zero, List.set_cons_succ])
            refine wpAnyH_take (i := 7) (v := .slice (some ⟨g, 0, none⟩) n c) rfl (by kernel_rfl) (by kernel_rfl) (by kernel_rfl) (fun _ _ _ h => h) (yieldsIf_loadP (by rfl) _ rfl rfl (fun _ s => load_spots (((HKW3.out.below s HKW3.out.lt).cell 0).trans HC0.out))) hH ?_
            (try simp only [List.getElem_toArray, List.getElem_cons_zero, List.getElem_cons_succ, Act.put, List.setIfInBounds_toArray, List.set_cons_zero, List.set_cons_succ])
            refine wpAnyH_take (i := 8) (v := .int .i64 ((k : Nat) : Int)) rfl (by kernel_rfl) (by kernel_rfl) (by kernel_rfl) (fun _ _ _ h => h) (.inl ⟨by rfl, fun _ _ => by kernel_rfl⟩) hH ?_
            (try simp only [List.getElem_toArray, List.getElem_cons_zero, List.getElem_cons_succ, Act.put, List.setIfInBounds_toArray, List.set_cons_zero, List.set_cons_succ])
            refine wpAnyH_take (i := 9) (v := .pointer (some ⟨g, 0 + k * 3, none⟩)) rfl (by kernel_rfl) (by kernel_rfl) (by kernel_rfl) (fun _ _ _ h => h) (yieldsIf_indexS Try.underlying25 sizeSpE (by rfl) _ _ rfl rfl rfl HKN.out) hH ?_
            (try simp only [List.getElem_toArray, List.getElem_cons_zero, List.getElem_cons_succ, Act.put, List.setIfInBounds_toArray, List.set_cons_zero, List.set_cons_succ])
            refine wpAnyH_take (i := 10) (v := spV (sg L k)) rfl (by kernel_rfl) (by kernel_rfl) (by kernel_rfl) (fun _ _ _ h => h) (yieldsIf_loadP (by rfl) _ rfl rfl (fun _ s => (HS3.out.tch s HS3.out.lt).load HKL2.out)) hH ?_
            (try simp only [List.getElem_toArray, List.getElem_cons_zero, List.getElem_cons_succ, Act.put, List.setIfInBounds_toArray, List.set_cons_zero, List.set_cons_succ])
            refine wpAnyH_take (i := 11) (v := .pointer (some ⟨hb, 0, none⟩)) rfl (by kernel_rfl) (by kernel_rfl) (by kernel_rfl) (fun _ _ _ h => h) (.inl ⟨by rfl, fun _ _ => by kernel_rfl⟩) hH ?_
            (try simp only [List.getElem_toArray, List.getElem_cons_zero, List.getElem_cons_succ, Act.put, List.setIfInBounds_toArray, List.set_cons_zero, List.set_cons_succ])
            refine wpAnyH_take (i := 12) (v := .pointer (some ⟨hb, 0, none⟩)) rfl (by kernel_rfl) (by kernel_rfl) (by kernel_rfl) (fun _ _ _ h => h) (.inl ⟨by rfl, fun _ _ => by kernel_rfl⟩) hH ?_
            (try simp only [List.getElem_toArray, List.getElem_cons_zero, List.getElem_cons_succ, Act.put, List.setIfInBounds_toArray, List.set_cons_zero, List.set_cons_succ])
            refine wpAnyH_take (i := 13) (v := .pointer (some ⟨hb, 0, none⟩)) rfl (by kernel_rfl) (by kernel_rfl) (by kernel_rfl) (fun _ _ _ h => h) (.inl ⟨by rfl, fun _ _ => by kernel_rfl⟩) hH ?_
            (try simp only [List.getElem_toArray, List.getElem_cons_zero, List.getElem_cons_succ, Act.put, List.setIfInBounds_toArray, List.set_cons_zero, List.set_cons_succ])
            refine wpAnyH_take (i := 14) (v := .slice (some ⟨g, 0, none⟩) n c) rfl (by kernel_rfl) (by kernel_rfl) (by kernel_rfl) (fun _ _ _ h => h) (yieldsIf_loadP (by rfl) _ rfl rfl (fun _ s => load_spots (((HKW3.out.below s HKW3.out.lt).cell 0).trans HC0.out))) hH ?_
            (try simp only [List.getElem_toArray, List.getElem_cons_zero, List.getElem_cons_succ, Act.put, List.setIfInBounds_toArray, List.set_cons_zero, List.set_cons_succ])
            refine wpAnyH_take (i := 15) (v := .int .i64 ((i : Nat) : Int)) rfl (by kernel_rfl) (by kernel_rfl) (by kernel_rfl) (fun _ _ _ h => h) (.inl ⟨by rfl, fun _ _ => by kernel_rfl⟩) hH ?_
            (try simp only [List.getElem_toArray, List.getElem_cons_zero, List.getElem_cons_succ, Act.put, List.setIfInBounds_toArray, List.set_cons_zero, List.set_cons_succ])
            refine wpAnyH_take (i := 16) (v := .pointer (some ⟨g, 0 + i * 3, none⟩)) rfl (by kernel_rfl) (by kernel_rfl) (by kernel_rfl) (fun _ _ _ h => h) (yieldsIf_indexS Try.underlying25 sizeSpE (by rfl) _ _ rfl rfl rfl HIN.out) hH ?_
            (try simp only [List.getElem_toArray, List.getElem_cons_zero, List.getElem_cons_succ, Act.put, List.setIfInBounds_toArray, List.set_cons_zero, List.set_cons_succ])
            refine wpAnyH_take (i := 17) (v := spV (sg L i)) rfl (by kernel_rfl) (by kernel_rfl) (by kernel_rfl) (fun _ _ _ h => h) (yieldsIf_loadP (by rfl) _ rfl rfl (fun _ s => (HS3.out.tch s HS3.out.lt).load HIL2.out)) hH ?_
            (try simp only [List.getElem_toArray, List.getElem_cons_zero, List.getElem_cons_succ, Act.put, List.setIfInBounds_toArray, List.set_cons_zero, List.set_cons_succ])
            refine wpAnyH_call 18 f #[spV (sg L k), spV (sg L i)] _ (by kernel_rfl) (by rfl) (by kernel_rfl) (run_callv HHF.out.1 (by rfl) (by rfl) (by rfl) (by rfl) _) (HHF.out.2 _ _ _) ?_
            rintro e Z2 ⟨rfl, g2⟩
            rw [td]
            have h2 := hH.trans (g2.below.mono hH.size)
            refine ⟨_, rfl, h2, ?_⟩
            (try simp only [List.getElem_toArray, List.getElem_cons_zero, List.getElem_cons_succ, Act.put, List.setIfInBounds_toArray, List.set_cons_zero, List.set_cons_succ])
            refine wpAnyH_take (i := 19) (v := .bool true) rfl (by kernel_rfl) (by kernel_rfl) (by kernel_rfl) (fun _ _ _ h => h) (.inl ⟨by rfl, fun _ _ => by kernel_rfl⟩) h2 ?_
            (try simp only [List.getElem_toArray, List.getElem_cons_zero, List.getElem_cons_succ, Act.put, List.setIfInBounds_toArray, List.set_cons_zero, List.set_cons_succ])
            refine wpAnyH_done (by kernel_rfl) ?_ _
            go_wp2_with fail
            (try simp only [Exit.inBlock, Exit.then])
            refine bodyPost_ret (results_none rfl _ _ _) rfl ?_
            exact ⟨rfl, L, HU.out.pm, HU.out.stop HOO.out (k := k) (.inr ⟨HCH.out, td⟩), HS3.out.tch h2 HS3.out.lt, HT3.out.trans (Tch.of_below (S := fun _ => False) h2) (fun k q => q.elim)⟩
          · refine wp_region_held_drew (S := fun w' => Below Z1.heap.size Z1 w') (by kernel_rfl) (below_drewN (Below.refl _ _) 1) (fun hH => ?_)
            refine wpAnyH_take (i := 0) (v := .pointer (some ⟨hb, 0, none⟩)) rfl (by kernel_rfl) (by kernel_rfl) (by kernel_rfl) (fun _ _ _ h => h) (.inl ⟨by rfl, fun _ _ => by kernel_rfl⟩) hH ?_
            (try simp only [List.getElem_toArray, List.getElem_cons_zero, Act.put, List.setIfInBounds_toArray, List.set_cons_zero, List.set_cons_succ])
            refine wpAnyH_take (i := 1) (v := .pointer (some ⟨hb, 0, none⟩)) rfl (by kernel_rfl) (by kernel_rfl) (by kernel_rfl) (fun _ _ _ h => h) (.inl ⟨by rfl, fun _ _ => by kernel_rfl⟩) hH ?_
            (try simp only [List.getElem_toArray, List.getElem_cons_zero, List.getElem_cons_succ, Act.put, List.setIfInBounds_toArray, List.set_cons_zero, List.set_cons_succ])
            refine wpAnyH_take (i := 2) (v := .pointer (some ⟨hb, 1, none⟩)) rfl (by kernel_rfl) (by kernel_rfl) (by kernel_rfl) (fun _ _ _ h => h) (.inl ⟨by rfl, fun _ _ => by kernel_rfl⟩) hH ?_
            (try simp only [List.getElem_toArray, List.getElem_cons_zero, List.getElem_cons_succ, Act.put, List.setIfInBounds_toArray, List.set_cons_zero, List.set_cons_succ])
            refine wpAnyH_take (i := 3) (v := fvA f) rfl (by kernel_rfl) (by kernel_rfl) (by kernel_rfl) (fun _ _ _ h => h) (yieldsIf_loadP (by rfl) _ rfl rfl (fun _ s => load_ahead (((HKW3.out.below s HKW3.out.lt).cell 1).trans HC1.out))) hH ?_
            (try simp only [List.getElem_toArray, List.getElem_cons_zero, List.getElem_cons_succ, Act.put, List.setIfInBounds_toArray, List.set_cons_zero, List.set_cons_succ])
            refine wpAnyH_take (i := 4) (v := .pointer (some ⟨hb, 0, none⟩)) rfl (by kernel_rfl) (by kernel_rfl) (by kernel_rfl) (fun _ _ _ h => h) (.inl ⟨by rfl, fun _ _ => by kernel_rfl⟩) hH ?_
            (try simp only [List.getElem_toArray, List.getElem_cons_zero, List.getElem_cons_succ, Act.put, List.setIfInBounds_toArray, List.set_cons_zero, List.set_cons_succ])
            refine wpAnyH_take (i := 5) (v := .pointer (some ⟨hb, 0, none⟩)) rfl (by kernel_rfl) (by kernel_rfl) (by kernel_rfl) (fun _ _ _ h => h) (.inl ⟨by rfl, fun _ _ => by kernel_rfl⟩) hH ?_
            (try simp only [List.getElem_toArray, List.getElem_cons_zero, List.getElem_cons_succ, Act.put, List.setIfInBounds_toArray, List.set_cons_zero, List.set_cons_succ])
            refine wpAnyH_take (i := 6) (v := .pointer (some ⟨hb, 0, none⟩)) rfl (by kernel_rfl) (by kernel_rfl) (by kernel_rfl) (fun _ _ _ h => h) (.inl ⟨by rfl, fun _ _ => by kernel_rfl⟩) hH ?_
            (try simp only [List.getElem_toArray, List.getElem_cons_zero, List.getElem_cons_succ, Act.put, List.setIfInBounds_toArray, List.set_cons_zero, List.set_cons_succ])
            refine wpAnyH_take (i := 7) (v := .slice (some ⟨g, 0, none⟩) n c) rfl (by kernel_rfl) (by kernel_rfl) (by kernel_rfl) (fun _ _ _ h => h) (yieldsIf_loadP (by rfl) _ rfl rfl (fun _ s => load_spots (((HKW3.out.below s HKW3.out.lt).cell 0).trans HC0.out))) hH ?_
            (try simp only [List.getElem_toArray, List.getElem_cons_zero, List.getElem_cons_succ, Act.put, List.setIfInBounds_toArray, List.set_cons_zero, List.set_cons_succ])
            refine wpAnyH_take (i := 8) (v := .int .i64 ((k : Nat) : Int)) rfl (by kernel_rfl) (by kernel_rfl) (by kernel_rfl) (fun _ _ _ h => h) (.inl ⟨by rfl, fun _ _ => by kernel_rfl⟩) hH ?_
            (try simp only [List.getElem_toArray, List.getElem_cons_zero, List.getElem_cons_succ, Act.put, List.setIfInBounds_toArray, List.set_cons_zero, List.set_cons_succ])
            refine wpAnyH_take (i := 9) (v := .pointer (some ⟨g, 0 + k * 3, none⟩)) rfl (by kernel_rfl) (by kernel_rfl) (by kernel_rfl) (fun _ _ _ h => h) (yieldsIf_indexS Try.underlying25 sizeSpE (by rfl) _ _ rfl rfl rfl HKN.out) hH ?_
            (try simp only [List.getElem_toArray, List.getElem_cons_zero, List.getElem_cons_succ, Act.put, List.setIfInBounds_toArray, List.set_cons_zero, List.set_cons_succ])
            refine wpAnyH_take (i := 10) (v := spV (sg L k)) rfl (by kernel_rfl) (by kernel_rfl) (by kernel_rfl) (fun _ _ _ h => h) (yieldsIf_loadP (by rfl) _ rfl rfl (fun _ s => (HS3.out.tch s HS3.out.lt).load HKL2.out)) hH ?_
            (try simp only [List.getElem_toArray, List.getElem_cons_zero, List.getElem_cons_succ, Act.put, List.setIfInBounds_toArray, List.set_cons_zero, List.set_cons_succ])
            refine wpAnyH_take (i := 11) (v := .pointer (some ⟨hb, 0, none⟩)) rfl (by kernel_rfl) (by kernel_rfl) (by kernel_rfl) (fun _ _ _ h => h) (.inl ⟨by rfl, fun _ _ => by kernel_rfl⟩) hH ?_
            (try simp only [List.getElem_toArray, List.getElem_cons_zero, List.getElem_cons_succ, Act.put, List.setIfInBounds_toArray, List.set_cons_zero, List.set_cons_succ])
            refine wpAnyH_take (i := 12) (v := .pointer (some ⟨hb, 0, none⟩)) rfl (by kernel_rfl) (by kernel_rfl) (by kernel_rfl) (fun _ _ _ h => h) (.inl ⟨by rfl, fun _ _ => by kernel_rfl⟩) hH ?_
            (try simp only [List.getElem_toArray, List.getElem_cons_zero, List.getElem_cons_succ, Act.put, List.setIfInBounds_toArray, List.set_cons_zero, List.set_cons_succ])
            refine wpAnyH_take (i := 13) (v := .pointer (some ⟨hb, 0, none⟩)) rfl (by kernel_rfl) (by kernel_rfl) (by kernel_rfl) (fun _ _ _ h => h) (.inl ⟨by rfl, fun _ _ => by kernel_rfl⟩) hH ?_
            (try simp only [List.getElem_toArray, List.getElem_cons_zero, List.getElem_cons_succ, Act.put, List.setIfInBounds_toArray, List.set_cons_zero, List.set_cons_succ])
            refine wpAnyH_take (i := 14) (v := .slice (some ⟨g, 0, none⟩) n c) rfl (by kernel_rfl) (by kernel_rfl) (by kernel_rfl) (fun _ _ _ h => h) (yieldsIf_loadP (by rfl) _ rfl rfl (fun _ s => load_spots (((HKW3.out.below s HKW3.out.lt).cell 0).trans HC0.out))) hH ?_
            (try simp only [List.getElem_toArray, List.getElem_cons_zero, List.getElem_cons_succ, Act.put, List.setIfInBounds_toArray, List.set_cons_zero, List.set_cons_succ])
            refine wpAnyH_take (i := 15) (v := .int .i64 ((i : Nat) : Int)) rfl (by kernel_rfl) (by kernel_rfl) (by kernel_rfl) (fun _ _ _ h => h) (.inl ⟨by rfl, fun _ _ => by kernel_rfl⟩) hH ?_
            (try simp only [List.getElem_toArray, List.getElem_cons_zero, List.getElem_cons_succ, Act.put, List.setIfInBounds_toArray, List.set_cons_zero, List.set_cons_succ])
            refine wpAnyH_take (i := 16) (v := .pointer (some ⟨g, 0 + i * 3, none⟩)) rfl (by kernel_rfl) (by kernel_rfl) (by kernel_rfl) (fun _ _ _ h => h) (yieldsIf_indexS Try.underlying25 sizeSpE (by rfl) _ _ rfl rfl rfl HIN.out) hH ?_
            (try simp only [List.getElem_toArray, List.getElem_cons_zero, List.getElem_cons_succ, Act.put, List.setIfInBounds_toArray, List.set_cons_zero, List.set_cons_succ])
            refine wpAnyH_take (i := 17) (v := spV (sg L i)) rfl (by kernel_rfl) (by kernel_rfl) (by kernel_rfl) (fun _ _ _ h => h) (yieldsIf_loadP (by rfl) _ rfl rfl (fun _ s => (HS3.out.tch s HS3.out.lt).load HIL2.out)) hH ?_
            (try simp only [List.getElem_toArray, List.getElem_cons_zero, List.getElem_cons_succ, Act.put, List.setIfInBounds_toArray, List.set_cons_zero, List.set_cons_succ])
            refine wpAnyH_call 18 f #[spV (sg L k), spV (sg L i)] _ (by kernel_rfl) (by rfl) (by kernel_rfl) (run_callv HHF.out.1 (by rfl) (by rfl) (by rfl) (by rfl) _) (HHF.out.2 _ _ _) ?_
            rintro e Z2 ⟨rfl, g2⟩
            rw [td]
            have h2 := hH.trans (g2.below.mono hH.size)
            refine ⟨_, rfl, h2, ?_⟩
            (try simp only [List.getElem_toArray, List.getElem_cons_zero, List.getElem_cons_succ, Act.put, List.setIfInBounds_toArray, List.set_cons_zero, List.set_cons_succ])
            refine wpAnyH_take (i := 19) (v := .bool false) rfl (by kernel_rfl) (by kernel_rfl) (by kernel_rfl) (fun _ _ _ h => h) (.inl ⟨by rfl, fun _ _ => by kernel_rfl⟩) h2 ?_
            (try simp only [List.getElem_toArray, List.getElem_cons_zero, List.getElem_cons_succ, Act.put, List.setIfInBounds_toArray, List.set_cons_zero, List.set_cons_succ])
            refine wpAnyH_done (by kernel_rfl) ?_ _
            have HKW2 : Hid (Blk Z2 hb T C) := HKW3.out.below h2 HKW3.out.lt
            have HSW : Hid (HeldS Z2.drew g c L) := HS3.out.tch (w' := Z2.drew) (below_drewN h2 1) HS3.out.lt
            have HTW : Hid (Tch (fun k => k = g) w Z2) := HT3.out.trans (Tch.of_below (S := fun _ => False) h2) (fun k q => q.elim)
            clear h2 g2
            go_upto_region 6 with fail
            refine wp_region_held_drew (S := fun w' => Tch (fun k => k = g) Z2 w') (by kernel_rfl) ((Tch.refl _ Z2).drewN 1) (fun hH2 => ?_)
            refine wpAnyH_take (i := 0) (v := .pointer (some ⟨hb, 0, none⟩)) rfl (by kernel_rfl) (by kernel_rfl) (by kernel_rfl) (fun _ _ _ h => h) (.inl ⟨by rfl, fun _ _ => by kernel_rfl⟩) hH2 ?_
            (try simp only [List.getElem_toArray, List.getElem_cons_zero, Act.put, List.setIfInBounds_toArray, List.set_cons_zero, List.set_cons_succ])
            refine wpAnyH_take (i := 1) (v := .pointer (some ⟨hb, 0, none⟩)) rfl (by kernel_rfl) (by kernel_rfl) (by kernel_rfl) (fun _ _ _ h => h) (.inl ⟨by rfl, fun _ _ => by kernel_rfl⟩) hH2 ?_
            (try simp only [List.getElem_toArray, List.getElem_cons_zero, List.getElem_cons_succ, Act.put, List.setIfInBounds_toArray, List.set_cons_zero, List.set_cons_succ])
            refine wpAnyH_take (i := 2) (v := .pointer (some ⟨hb, 0, none⟩)) rfl (by kernel_rfl) (by kernel_rfl) (by kernel_rfl) (fun _ _ _ h => h) (.inl ⟨by rfl, fun _ _ => by kernel_rfl⟩) hH2 ?_
            (try simp only [List.getElem_toArray, List.getElem_cons_zero, List.getElem_cons_succ, Act.put, List.setIfInBounds_toArray, List.set_cons_zero, List.set_cons_succ])
            refine wpAnyH_take (i := 3) (v := .slice (some ⟨g, 0, none⟩) n c) rfl (by kernel_rfl) (by kernel_rfl) (by kernel_rfl) (fun _ _ _ h => h) (yieldsIf_loadP (by rfl) _ rfl rfl (fun _ s => load_spots (((HKW2.out.tch s HNE.out).cell 0).trans HC0.out))) hH2 ?_
            (try simp only [List.getElem_toArray, List.getElem_cons_zero, List.getElem_cons_succ, Act.put, List.setIfInBounds_toArray, List.set_cons_zero, List.set_cons_succ])
            refine wpAnyH_take (i := 4) (v := .int .i64 ((i : Nat) : Int)) rfl (by kernel_rfl) (by kernel_rfl) (by kernel_rfl) (fun _ _ _ h => h) (.inl ⟨by rfl, fun _ _ => by kernel_rfl⟩) hH2 ?_
            (try simp only [List.getElem_toArray, List.getElem_cons_zero, List.getElem_cons_succ, Act.put, List.setIfInBounds_toArray, List.set_cons_zero, List.set_cons_succ])
            refine wpAnyH_take (i := 5) (v := .pointer (some ⟨hb, 0, none⟩)) rfl (by kernel_rfl) (by kernel_rfl) (by kernel_rfl) (fun _ _ _ h => h) (.inl ⟨by rfl, fun _ _ => by kernel_rfl⟩) hH2 ?_
            (try simp only [List.getElem_toArray, List.getElem_cons_zero, List.getElem_cons_succ, Act.put, List.setIfInBounds_toArray, List.set_cons_zero, List.set_cons_succ])
            refine wpAnyH_take (i := 6) (v := .pointer (some ⟨hb, 0, none⟩)) rfl (by kernel_rfl) (by kernel_rfl) (by kernel_rfl) (fun _ _ _ h => h) (.inl ⟨by rfl, fun _ _ => by kernel_rfl⟩) hH2 ?_
            (try simp only [List.getElem_toArray, List.getElem_cons_zero, List.getElem_cons_succ, Act.put, List.setIfInBounds_toArray, List.set_cons_zero, List.set_cons_succ])
            refine wpAnyH_take (i := 7) (v := .pointer (some ⟨hb, 0, none⟩)) rfl (by kernel_rfl) (by kernel_rfl) (by kernel_rfl) (fun _ _ _ h => h) (.inl ⟨by rfl, fun _ _ => by kernel_rfl⟩) hH2 ?_
            (try simp only [List.getElem_toArray, List.getElem_cons_zero, List.getElem_cons_succ, Act.put, List.setIfInBounds_toArray, List.set_cons_zero, List.set_cons_succ])
            refine wpAnyH_take (i := 8) (v := .slice (some ⟨g, 0, none⟩) n c) rfl (by kernel_rfl) (by kernel_rfl) (by kernel_rfl) (fun _ _ _ h => h) (yieldsIf_loadP (by rfl) _ rfl rfl (fun _ s => load_spots (((HKW2.out.tch s HNE.out).cell 0).trans HC0.out))) hH2 ?_
            (try simp only [List.getElem_toArray, List.getElem_cons_zero, List.getElem_cons_succ, Act.put, List.setIfInBounds_toArray, List.set_cons_zero, List.set_cons_succ])
            refine wpAnyH_take (i := 9) (v := .int .i64 ((k : Nat) : Int)) rfl (by kernel_rfl) (by kernel_rfl) (by kernel_rfl) (fun _ _ _ h => h) (.inl ⟨by rfl, fun _ _ => by kernel_rfl⟩) hH2 ?_
            (try simp only [List.getElem_toArray, List.getElem_cons_zero, List.getElem_cons_succ, Act.put, List.setIfInBounds_toArray, List.set_cons_zero, List.set_cons_succ])
            refine wpAnyH_take (i := 10) (v := .pointer (some ⟨hb, 0, none⟩)) rfl (by kernel_rfl) (by kernel_rfl) (by kernel_rfl) (fun _ _ _ h => h) (.inl ⟨by rfl, fun _ _ => by kernel_rfl⟩) hH2 ?_
            (try simp only [List.getElem_toArray, List.getElem_cons_zero, List.getElem_cons_succ, Act.put, List.setIfInBounds_toArray, List.set_cons_zero, List.set_cons_succ])
            refine wpAnyH_take (i := 11) (v := .pointer (some ⟨hb, 0, none⟩)) rfl (by kernel_rfl) (by kernel_rfl) (by kernel_rfl) (fun _ _ _ h => h) (.inl ⟨by rfl, fun _ _ => by kernel_rfl⟩) hH2 ?_
            (try simp only [List.getElem_toArray, List.getElem_cons_zero, List.getElem_cons_succ, Act.put, List.setIfInBounds_toArray, List.set_cons_zero, List.set_cons_succ])
            refine wpAnyH_take (i := 12) (v := .pointer (some ⟨hb, 0, none⟩)) rfl (by kernel_rfl) (by kernel_rfl) (by kernel_rfl) (fun _ _ _ h => h) (.inl ⟨by rfl, fun _ _ => by kernel_rfl⟩) hH2 ?_
            (try simp only [List.getElem_toArray, List.getElem_cons_zero, List.getElem_cons_succ, Act.put, List.setIfInBounds_toArray, List.set_cons_zero, List.set_cons_succ])
            refine wpAnyH_take (i := 13) (v := .slice (some ⟨g, 0, none⟩) n c) rfl (by kernel_rfl) (by kernel_rfl) (by kernel_rfl) (fun _ _ _ h => h) (yieldsIf_loadP (by rfl) _ rfl rfl (fun _ s => load_spots (((HKW2.out.tch s HNE.out).cell 0).trans HC0.out))) hH2 ?_
            (try simp only [List.getElem_toArray, List.getElem_cons_zero, List.getElem_cons_succ, Act.put, List.setIfInBounds_toArray, List.set_cons_zero, List.set_cons_succ])
            refine wpAnyH_take (i := 14) (v := .int .i64 ((k : Nat) : Int)) rfl (by kernel_rfl) (by kernel_rfl) (by kernel_rfl) (fun _ _ _ h => h) (.inl ⟨by rfl, fun _ _ => by kernel_rfl⟩) hH2 ?_
            (try simp only [List.getElem_toArray, List.getElem_cons_zero, List.getElem_cons_succ, Act.put, List.setIfInBounds_toArray, List.set_cons_zero, List.set_cons_succ])
            refine wpAnyH_take (i := 15) (v := .pointer (some ⟨g, 0 + k * 3, none⟩)) rfl (by kernel_rfl) (by kernel_rfl) (by kernel_rfl) (fun _ _ _ h => h) (yieldsIf_indexS Try.underlying25 sizeSpE (by rfl) _ _ rfl rfl rfl HKN.out) hH2 ?_
            (try simp only [List.getElem_toArray, List.getElem_cons_zero, List.getElem_cons_succ, Act.put, List.setIfInBounds_toArray, List.set_cons_zero, List.set_cons_succ])
            refine wpAnyH_take (i := 17) (v := .pointer (some ⟨hb, 0, none⟩)) rfl (by kernel_rfl) (by kernel_rfl) (by kernel_rfl) (fun _ _ _ h => h) (.inl ⟨by rfl, fun _ _ => by kernel_rfl⟩) hH2 ?_
            (try simp only [List.getElem_toArray, List.getElem_cons_zero, List.getElem_cons_succ, Act.put, List.setIfInBounds_toArray, List.set_cons_zero, List.set_cons_succ])
            refine wpAnyH_take (i := 18) (v := .pointer (some ⟨hb, 0, none⟩)) rfl (by kernel_rfl) (by kernel_rfl) (by kernel_rfl) (fun _ _ _ h => h) (.inl ⟨by rfl, fun _ _ => by kernel_rfl⟩) hH2 ?_
            (try simp only [List.getElem_toArray, List.getElem_cons_zero, List.getElem_cons_succ, Act.put, List.setIfInBounds_toArray, List.set_cons_zero, List.set_cons_succ])
            refine wpAnyH_take (i := 19) (v := .pointer (some ⟨hb, 0, none⟩)) rfl (by kernel_rfl) (by kernel_rfl) (by kernel_rfl) (fun _ _ _ h => h) (.inl ⟨by rfl, fun _ _ => by kernel_rfl⟩) hH2 ?_
            (try simp only [List.getElem_toArray, List.getElem_cons_zero, List.getElem_cons_succ, Act.put, List.setIfInBounds_toArray, List.set_cons_zero, List.set_cons_succ])
            refine wpAnyH_take (i := 20) (v := .slice (some ⟨g, 0, none⟩) n c) rfl (by kernel_rfl) (by kernel_rfl) (by kernel_rfl) (fun _ _ _ h => h) (yieldsIf_loadP (by rfl) _ rfl rfl (fun _ s => load_spots (((HKW2.out.tch s HNE.out).cell 0).trans HC0.out))) hH2 ?_
            (try simp only [List.getElem_toArray, List.getElem_cons_zero, List.getElem_cons_succ, Act.put, List.setIfInBounds_toArray, List.set_cons_zero, List.set_cons_succ])
            refine wpAnyH_take (i := 21) (v := .int .i64 ((i : Nat) : Int)) rfl (by kernel_rfl) (by kernel_rfl) (by kernel_rfl) (fun _ _ _ h => h) (.inl ⟨by rfl, fun _ _ => by kernel_rfl⟩) hH2 ?_
            (try simp only [List.getElem_toArray, List.getElem_cons_zero, List.getElem_cons_succ, Act.put, List.setIfInBounds_toArray, List.set_cons_zero, List.set_cons_succ])
            refine wpAnyH_take (i := 22) (v := .pointer (some ⟨g, 0 + i * 3, none⟩)) rfl (by kernel_rfl) (by kernel_rfl) (by kernel_rfl) (fun _ _ _ h => h) (yieldsIf_indexS Try.underlying25 sizeSpE (by rfl) _ _ rfl rfl rfl HIN.out) hH2 ?_
            (try simp only [List.getElem_toArray, List.getElem_cons_zero, List.getElem_cons_succ, Act.put, List.setIfInBounds_toArray, List.set_cons_zero, List.set_cons_succ])
            refine wpAnyH_all (rs := [16, 23]) (by kernel_rfl) (by simp) (fun i9 hi9 => ?_)
            rcases (by simpa using hi9 : i9 = 16 ∨ i9 = 23) with rfl | rfl
            · refine wpOp_value (spV (sg L k)) (by rfl) (by kernel_rfl) (exec_loadK (by rfl) (by rfl) (HSW.out.load HKL2.out)) ⟨hH2, ?_⟩
              (try simp only [List.getElem_toArray, List.getElem_cons_zero, List.getElem_cons_succ, Act.put, List.setIfInBounds_toArray, List.set_cons_zero, List.set_cons_succ])
              refine wpAnyH_value 23 (spV (sg L i)) (by kernel_rfl) (by rfl) (by kernel_rfl) (exec_loadK (by rfl) (by rfl) (HSW.out.load HIL2.out)) hH2 ?_
              (try simp only [List.getElem_toArray, List.getElem_cons_zero, List.getElem_cons_succ, Act.put, List.setIfInBounds_toArray, List.set_cons_zero, List.set_cons_succ])
              refine wpAnyH_take (i := 24) (v := .pointer (some ⟨g, 0 + i * 3, none⟩)) rfl (by kernel_rfl) (by kernel_rfl) (by kernel_rfl) (fun _ _ _ h => h) (yieldsIf_indexS Try.underlying25 sizeSpE (by rfl) _ _ rfl rfl rfl HIN.out) hH2 ?_
              (try simp only [List.getElem_toArray, List.getElem_cons_zero, List.getElem_cons_succ, Act.put, List.setIfInBounds_toArray, List.set_cons_zero, List.set_cons_succ])
              have hH3 : Tch (fun k => k = g) Z2 (Z2.drew.setCells g (i * 3) (spC (sg L k)).toList) := Tch.setCells (S := fun k => k = g) rfl _ _ _ hH2
              refine wpAnyH_store 25 _ _ _ (by kernel_rfl) (by rfl) (by kernel_rfl) (by rfl) (by rfl) (by rfl) (HSW.out.store (sg L k) HIC.out) hH3 ?_
              (try simp only [List.getElem_toArray, List.getElem_cons_zero, List.getElem_cons_succ, Act.put])
              refine wpAnyH_take (i := 26) (v := .pointer (some ⟨g, 0 + k * 3, none⟩)) rfl (by kernel_rfl) (by kernel_rfl) (by kernel_rfl) (fun _ _ _ h => h) (yieldsIf_indexS Try.underlying25 sizeSpE (by rfl) _ _ rfl rfl rfl HKN.out) hH3 ?_
              (try simp only [List.getElem_toArray, List.getElem_cons_zero, List.getElem_cons_succ, Act.put, List.setIfInBounds_toArray, List.set_cons_zero, List.set_cons_succ])
              refine wpAnyH_store 27 _ _ _ (by kernel_rfl) (by rfl) (by kernel_rfl) (by rfl) (by rfl) (by rfl) ((HSW.out.set (sg L k) HIC.out).store (sg L i) HKC.out) (Tch.setCells (S := fun k => k = g) rfl _ _ _ hH3) ?_
              (try simp only [List.getElem_toArray, List.getElem_cons_zero, List.getElem_cons_succ, Act.put])
              refine wpAnyH_done (by kernel_rfl) ?_ _
              have HSV := Lib.hid ((HSW.out.set (sg L k) HIC.out).set (sg L i) HKC.out)
              have HTV : Hid (Tch (fun k => k = g) Z2 _) := Tch.setCells (S := fun k => k = g) rfl ((spC (sg L i)).toList) (k * 3) _ hH3
              go_wp2_with fail
              go_roundw
              case rel => exact ⟨k, swp L i k, Nat.le_of_lt HKN.out, rfl, HU.out.step HOO.out HKK.out.1 HKL2.out HKK.out.2 HCH.out td, HSV.out, HTW.out.trans HTV.out (fun k q => .inl q)⟩
              case measure => have h1 := HKK.out; have h2 := HKN.out; simp [intOf]; omega
            · refine wpOp_value (spV (sg L i)) (by rfl) (by kernel_rfl) (exec_loadK (by rfl) (by rfl) (HSW.out.load HIL2.out)) ⟨hH2, ?_⟩
              (try simp only [List.getElem_toArray, List.getElem_cons_zero, List.getElem_cons_succ, Act.put, List.setIfInBounds_toArray, List.set_cons_zero, List.set_cons_succ])
              refine wpAnyH_value 16 (spV (sg L k)) (by kernel_rfl) (by rfl) (by kernel_rfl) (exec_loadK (by rfl) (by rfl) (HSW.out.load HKL2.out)) hH2 ?_
              (try simp only [List.getElem_toArray, List.getElem_cons_zero, List.getElem_cons_succ, Act.put, List.setIfInBounds_toArray, List.set_cons_zero, List.set_cons_succ])
              refine wpAnyH_take (i := 24) (v := .pointer (some ⟨g, 0 + i * 3, none⟩)) rfl (by kernel_rfl) (by kernel_rfl) (by kernel_rfl) (fun _ _ _ h => h) (yieldsIf_indexS Try.underlying25 sizeSpE (by rfl) _ _ rfl rfl rfl HIN.out) hH2 ?_
              (try simp only [List.getElem_toArray, List.getElem_cons_zero, List.getElem_cons_succ, Act.put, List.setIfInBounds_toArray, List.set_cons_zero, List.set_cons_succ])
              have hH3 : Tch (fun k => k = g) Z2 (Z2.drew.setCells g (i * 3) (spC (sg L k)).toList) := Tch.setCells (S := fun k => k = g) rfl _ _ _ hH2
              refine wpAnyH_store 25 _ _ _ (by kernel_rfl) (by rfl) (by kernel_rfl) (by rfl) (by rfl) (by rfl) (HSW.out.store (sg L k) HIC.out) hH3 ?_
              (try simp only [List.getElem_toArray, List.getElem_cons_zero, List.getElem_cons_succ, Act.put])
              refine wpAnyH_take (i := 26) (v := .pointer (some ⟨g, 0 + k * 3, none⟩)) rfl (by kernel_rfl) (by kernel_rfl) (by kernel_rfl) (fun _ _ _ h => h) (yieldsIf_indexS Try.underlying25 sizeSpE (by rfl) _ _ rfl rfl rfl HKN.out) hH3 ?_
              (try simp only [List.getElem_toArray, List.getElem_cons_zero, List.getElem_cons_succ, Act.put, List.setIfInBounds_toArray, List.set_cons_zero, List.set_cons_succ])
              refine wpAnyH_store 27 _ _ _ (by kernel_rfl) (by rfl) (by kernel_rfl) (by rfl) (by rfl) (by rfl) ((HSW.out.set (sg L k) HIC.out).store (sg L i) HKC.out) (Tch.setCells (S := fun k => k = g) rfl _ _ _ hH3) ?_
              (try simp only [List.getElem_toArray, List.getElem_cons_zero, List.getElem_cons_succ, Act.put])
              refine wpAnyH_done (by kernel_rfl) ?_ _
              have HSV := Lib.hid ((HSW.out.set (sg L k) HIC.out).set (sg L i) HKC.out)
              have HTV : Hid (Tch (fun k => k = g) Z2 _) := Tch.setCells (S := fun k => k = g) rfl ((spC (sg L i)).toList) (k * 3) _ hH3
              go_wp2_with fail
              go_roundw
              case rel => exact ⟨k, swp L i k, Nat.le_of_lt HKN.out, rfl, HU.out.step HOO.out HKK.out.1 HKL2.out HKK.out.2 HCH.out td, HSV.out, HTW.out.trans HTV.out (fun k q => .inl q)⟩
              case measure => have h1 := HKK.out; have h2 := HKN.out; simp [intOf]; omega
        · have HKK : Hid (0 < k1 ∧ (k1 - 1) / 2 = i) := by have h1 := HK.out; have h2 := HK1.out; show _ ∧ _; omega
          have HCH : Hid (∀ j, 0 < j → j < L.length → (j - 1) / 2 = i → ah (sg L j) (sg L k1) = false) := by
            intro j j0 jl jq
            have h1 := HK.out
            have h2 := HK1.out
            rcases (by omega : j = k ∨ j = k1) with rfl | rfl
            · exact HOO.out.asym tb
            · exact HOO.out.irr _
          refine wp_region_held_drew (S := fun w' => Below wr.heap.size wr w') (by kernel_rfl) (below_drewN (Below.refl _ _) 1) (fun hH => ?_)
          refine wpAnyH_take (i := 0) (v := .int .i64 ((k : Nat) : Int)) rfl (by kernel_rfl) (by kernel_rfl) (by kernel_rfl) (fun _ _ _ h => h) (.inl ⟨by rfl, fun _ _ => by kernel_rfl⟩) hH ?_
          (try simp only [List.getElem_toArray, List.getElem_cons_zero, Act.put, List.setIfInBounds_toArray, List.set_cons_zero, List.set_cons_succ])
          refine wpAnyH_take (i := 1) (v := .int .i64 ((k1 : Nat) : Int)) rfl (by kernel_rfl) (by kernel_rfl) (by kernel_rfl) (fun _ _ _ h => h) (yieldsIf_addC HKA.out (by rfl) _ _ rfl rfl rfl) hH ?_
          (try simp only [List.getElem_toArray, List.getElem_cons_zero, List.getElem_cons_succ, Act.put, List.setIfInBounds_toArray, List.set_cons_zero, List.set_cons_succ])
          refine wpAnyH_take (i := 2) (v := .pointer (some ⟨hb, 0, none⟩)) rfl (by kernel_rfl) (by kernel_rfl) (by kernel_rfl) (fun _ _ _ h => h) (.inl ⟨by rfl, fun _ _ => by kernel_rfl⟩) hH ?_
          (try simp only [List.getElem_toArray, List.getElem_cons_zero, List.getElem_cons_succ, Act.put, List.setIfInBounds_toArray, List.set_cons_zero, List.set_cons_succ])
          refine wpAnyH_take (i := 3) (v := .pointer (some ⟨hb, 0, none⟩)) rfl (by kernel_rfl) (by kernel_rfl) (by kernel_rfl) (fun _ _ _ h => h) (.inl ⟨by rfl, fun _ _ => by kernel_rfl⟩) hH ?_
          (try simp only [List.getElem_toArray, List.getElem_cons_zero, List.getElem_cons_succ, Act.put, List.setIfInBounds_toArray, List.set_cons_zero, List.set_cons_succ])
          refine wpAnyH_take (i := 4) (v := .pointer (some ⟨hb, 0, none⟩)) rfl (by kernel_rfl) (by kernel_rfl) (by kernel_rfl) (fun _ _ _ h => h) (.inl ⟨by rfl, fun _ _ => by kernel_rfl⟩) hH ?_
          (try simp only [List.getElem_toArray, List.getElem_cons_zero, List.getElem_cons_succ, Act.put, List.setIfInBounds_toArray, List.set_cons_zero, List.set_cons_succ])
          refine wpAnyH_take (i := 5) (v := .slice (some ⟨g, 0, none⟩) n c) rfl (by kernel_rfl) (by kernel_rfl) (by kernel_rfl) (fun _ _ _ h => h) (yieldsIf_loadP (by rfl) _ rfl rfl (fun _ s => load_spots (((HKW.out.below s HKW.out.lt).cell 0).trans HC0.out))) hH ?_
          (try simp only [List.getElem_toArray, List.getElem_cons_zero, List.getElem_cons_succ, Act.put, List.setIfInBounds_toArray, List.set_cons_zero, List.set_cons_succ])
          refine wpAnyH_take (i := 6) (v := .int .i64 n) rfl (by kernel_rfl) (by kernel_rfl) (by kernel_rfl) (fun _ _ _ h => h) (.inl ⟨by rfl, fun _ _ => by kernel_rfl⟩) hH ?_
          (try simp only [List.getElem_toArray, List.getElem_cons_zero, List.getElem_cons_succ, Act.put, List.setIfInBounds_toArray, List.set_cons_zero, List.set_cons_succ])
          refine wpAnyH_take (i := 7) (v := .bool true) rfl (by kernel_rfl) (by kernel_rfl) (by kernel_rfl) (fun _ _ _ h => h) (yieldsIf_lssC H3.out (by rfl) _ _ rfl rfl rfl) hH ?_
          (try simp only [List.getElem_toArray, List.getElem_cons_zero, List.getElem_cons_succ, Act.put, List.setIfInBounds_toArray, List.set_cons_zero, List.set_cons_succ])
          refine wpAnyH_take (i := 8) (v := .bool true) rfl (by kernel_rfl) (by kernel_rfl) (by kernel_rfl) (fun _ _ _ h => h) (.inl ⟨by rfl, fun _ _ => by kernel_rfl⟩) hH ?_
          (try simp only [List.getElem_toArray, List.getElem_cons_zero, List.getElem_cons_succ, Act.put, List.setIfInBounds_toArray, List.set_cons_zero, List.set_cons_succ])
          refine wpAnyH_take (i := 9) (v := .pointer (some ⟨hb, 0, none⟩)) rfl (by kernel_rfl) (by kernel_rfl) (by kernel_rfl) (fun _ _ _ h => h) (.inl ⟨by rfl, fun _ _ => by kernel_rfl⟩) hH ?_
          (try simp only [List.getElem_toArray, List.getElem_cons_zero, List.getElem_cons_succ, Act.put, List.setIfInBounds_toArray, List.set_cons_zero, List.set_cons_succ])
          refine wpAnyH_take (i := 10) (v := .pointer (some ⟨hb, 0, none⟩)) rfl (by kernel_rfl) (by kernel_rfl) (by kernel_rfl) (fun _ _ _ h => h) (.inl ⟨by rfl, fun _ _ => by kernel_rfl⟩) hH ?_
          (try simp only [List.getElem_toArray, List.getElem_cons_zero, List.getElem_cons_succ, Act.put, List.setIfInBounds_toArray, List.set_cons_zero, List.set_cons_succ])
          refine wpAnyH_take (i := 11) (v := .pointer (some ⟨hb, 1, none⟩)) rfl (by kernel_rfl) (by kernel_rfl) (by kernel_rfl) (fun _ _ _ h => h) (.inl ⟨by rfl, fun _ _ => by kernel_rfl⟩) hH ?_
          (try simp only [List.getElem_toArray, List.getElem_cons_zero, List.getElem_cons_succ, Act.put, List.setIfInBounds_toArray, List.set_cons_zero, List.set_cons_succ])
          refine wpAnyH_take (i := 12) (v := fvA f) rfl (by kernel_rfl) (by kernel_rfl) (by kernel_rfl) (fun _ _ _ h => h) (yieldsIf_loadP (by rfl) _ rfl rfl (fun _ s => load_ahead (((HKW.out.below s HKW.out.lt).cell 1).trans HC1.out))) hH ?_
          (try simp only [List.getElem_toArray, List.getElem_cons_zero, List.getElem_cons_succ, Act.put, List.setIfInBounds_toArray, List.set_cons_zero, List.set_cons_succ])
          refine wpAnyH_take (i := 13) (v := .pointer (some ⟨hb, 0, none⟩)) rfl (by kernel_rfl) (by kernel_rfl) (by kernel_rfl) (fun _ _ _ h => h) (.inl ⟨by rfl, fun _ _ => by kernel_rfl⟩) hH ?_
          (try simp only [List.getElem_toArray, List.getElem_cons_zero, List.getElem_cons_succ, Act.put, List.setIfInBounds_toArray, List.set_cons_zero, List.set_cons_succ])
          refine wpAnyH_take (i := 14) (v := .pointer (some ⟨hb, 0, none⟩)) rfl (by kernel_rfl) (by kernel_rfl) (by kernel_rfl) (fun _ _ _ h => h) (.inl ⟨by rfl, fun _ _ => by kernel_rfl⟩) hH ?_
          (try simp only [List.getElem_toArray, List.getElem_cons_zero, List.getElem_cons_succ, Act.put, List.setIfInBounds_toArray, List.set_cons_zero, List.set_cons_succ])
          refine wpAnyH_take (i := 15) (v := .pointer (some ⟨hb, 0, none⟩)) rfl (by kernel_rfl) (by kernel_rfl) (by kernel_rfl) (fun _ _ _ h => h) (.inl ⟨by rfl, fun _ _ => by kernel_rfl⟩) hH ?_
          (try simp only [List.getElem_toArray, List.getElem_cons_zero, List.getElem_cons_succ, Act.put, List.setIfInBounds_toArray, List.set_cons_zero, List.set_cons_succ])
          refine wpAnyH_take (i := 16) (v := .slice (some ⟨g, 0, none⟩) n c) rfl (by kernel_rfl) (by kernel_rfl) (by kernel_rfl) (fun _ _ _ h => h) (yieldsIf_loadP (by rfl) _ rfl rfl (fun _ s => load_spots (((HKW.out.below s HKW.out.lt).cell 0).trans HC0.out))) hH ?_
          (try simp only [List.getElem_toArray, List.getElem_cons_zero, List.getElem_cons_succ, Act.put, List.setIfInBounds_toArray, List.set_cons_zero, List.set_cons_succ])
          refine wpAnyH_take (i := 17) (v := .int .i64 ((k : Nat) : Int)) rfl (by kernel_rfl) (by kernel_rfl) (by kernel_rfl) (fun _ _ _ h => h) (.inl ⟨by rfl, fun _ _ => by kernel_rfl⟩) hH ?_
          (try simp only [List.getElem_toArray, List.getElem_cons_zero, List.getElem_cons_succ, Act.put, List.setIfInBounds_toArray, List.set_cons_zero, List.set_cons_succ])
          refine wpAnyH_take (i := 18) (v := .int .i64 ((k1 : Nat) : Int)) rfl (by kernel_rfl) (by kernel_rfl) (by kernel_rfl) (fun _ _ _ h => h) (yieldsIf_addC HKA.out (by rfl) _ _ rfl rfl rfl) hH ?_
          (try simp only [List.getElem_toArray, List.getElem_cons_zero, List.getElem_cons_succ, Act.put, List.setIfInBounds_toArray, List.set_cons_zero, List.set_cons_succ])
          refine wpAnyH_take (i := 19) (v := .pointer (some ⟨g, 0 + k1 * 3, none⟩)) rfl (by kernel_rfl) (by kernel_rfl) (by kernel_rfl) (fun _ _ _ h => h) (yieldsIf_indexS Try.underlying25 sizeSpE (by rfl) _ _ rfl rfl rfl HK1N.out) hH ?_
          (try simp only [List.getElem_toArray, List.getElem_cons_zero, List.getElem_cons_succ, Act.put, List.setIfInBounds_toArray, List.set_cons_zero, List.set_cons_succ])
          refine wpAnyH_take (i := 20) (v := spV (sg L k1)) rfl (by kernel_rfl) (by kernel_rfl) (by kernel_rfl) (fun _ _ _ h => h) (yieldsIf_loadP (by rfl) _ rfl rfl (fun _ s => (HS.out.tch s HS.out.lt).load HK1L2.out)) hH ?_
          (try simp only [List.getElem_toArray, List.getElem_cons_zero, List.getElem_cons_succ, Act.put, List.setIfInBounds_toArray, List.set_cons_zero, List.set_cons_succ])
          refine wpAnyH_take (i := 21) (v := .pointer (some ⟨hb, 0, none⟩)) rfl (by kernel_rfl) (by kernel_rfl) (by kernel_rfl) (fun _ _ _ h => h) (.inl ⟨by rfl, fun _ _ => by kernel_rfl⟩) hH ?_
          (try simp only [List.getElem_toArray, List.getElem_cons_zero, List.getElem_cons_succ, Act.put, List.setIfInBounds_toArray, List.set_cons_zero, List.set_cons_succ])
          refine wpAnyH_take (i := 22) (v := .pointer (some ⟨hb, 0, none⟩)) rfl (by kernel_rfl) (by kernel_rfl) (by kernel_rfl) (fun _ _ _ h => h) (.inl ⟨by rfl, fun _ _ => by kernel_rfl⟩) hH ?_
          (try simp only [List.getElem_toArray, List.getElem_cons_zero, List.getElem_cons_succ, Act.put, List.setIfInBounds_toArray, List.set_cons_zero, List.set_cons_succ])
          refine wpAnyH_take (i := 23) (v := .pointer (some ⟨hb, 0, none⟩)) rfl (by kernel_rfl) (by kernel_rfl) (by kernel_rfl) (fun _ _ _ h => h) (.inl ⟨by rfl, fun _ _ => by kernel_rfl⟩) hH ?_
          (try simp only [List.getElem_toArray, List.getElem_cons_zero, List.getElem_cons_succ, Act.put, List.setIfInBounds_toArray, List.set_cons_zero, List.set_cons_succ])
          refine wpAnyH_take (i := 24) (v := .slice (some ⟨g, 0, none⟩) n c) rfl (by kernel_rfl) (by kernel_rfl) (by kernel_rfl) (fun _ _ _ h => h) (yieldsIf_loadP (by rfl) _ rfl rfl (fun _ s => load_spots (((HKW.out.below s HKW.out.lt).cell 0).trans HC0.out))) hH ?_
          (try simp only [List.getElem_toArray, List.getElem_cons_zero, List.getElem_cons_succ, Act.put, List.setIfInBounds_toArray, List.set_cons_zero, List.set_cons_succ])
          refine wpAnyH_take (i := 25) (v := .int .i64 ((k : Nat) : Int)) rfl (by kernel_rfl) (by kernel_rfl) (by kernel_rfl) (fun _ _ _ h => h) (.inl ⟨by rfl, fun _ _ => by kernel_rfl⟩) hH ?_
          (try simp only [List.getElem_toArray, List.getElem_cons_zero, List.getElem_cons_succ, Act.put, List.setIfInBounds_toArray, List.set_cons_zero, List.set_cons_succ])
          refine wpAnyH_take (i := 26) (v := .pointer (some ⟨g, 0 + k * 3, none⟩)) rfl (by kernel_rfl) (by kernel_rfl) (by kernel_rfl) (fun _ _ _ h => h) (yieldsIf_indexS Try.underlying25 sizeSpE (by rfl) _ _ rfl rfl rfl HKN.out) hH ?_
          (try simp only [List.getElem_toArray, List.getElem_cons_zero, List.getElem_cons_succ, Act.put, List.setIfInBounds_toArray, List.set_cons_zero, List.set_cons_succ])
          refine wpAnyH_take (i := 27) (v := spV (sg L k)) rfl (by kernel_rfl) (by kernel_rfl) (by kernel_rfl) (fun _ _ _ h => h) (yieldsIf_loadP (by rfl) _ rfl rfl (fun _ s => (HS.out.tch s HS.out.lt).load HKL2.out)) hH ?_
          (try simp only [List.getElem_toArray, List.getElem_cons_zero, List.getElem_cons_succ, Act.put, List.setIfInBounds_toArray, List.set_cons_zero, List.set_cons_succ])
          refine wpAnyH_call 28 f #[spV (sg L k1), spV (sg L k)] _ (by kernel_rfl) (by rfl) (by kernel_rfl) (run_callv HHF.out.1 (by rfl) (by rfl) (by rfl) (by rfl) _) (HHF.out.2 _ _ _) ?_
          rintro e Z1 ⟨rfl, g1⟩
          rw [tb]
          have h1 := hH.trans (g1.below.mono hH.size)
          refine ⟨_, rfl, h1, ?_⟩
          (try simp only [List.getElem_toArray, List.getElem_cons_zero, List.getElem_cons_succ, Act.put, List.setIfInBounds_toArray, List.set_cons_zero, List.set_cons_succ])
          refine wpAnyH_take (i := 29) (v := .bool true) rfl (by kernel_rfl) (by kernel_rfl) (by kernel_rfl) (fun _ _ _ h => h) (.inl ⟨by rfl, fun _ _ => by kernel_rfl⟩) h1 ?_
          (try simp only [List.getElem_toArray, List.getElem_cons_zero, List.getElem_cons_succ, Act.put, List.setIfInBounds_toArray, List.set_cons_zero, List.set_cons_succ])
          refine wpAnyH_done (by kernel_rfl) ?_ _
          have HB3 : Hid (Below wr.heap.size wr Z1) := h1
          have HKW3 : Hid (Blk Z1 hb T C) := HKW.out.below HB3.out HKW.out.lt
          have HS3 : Hid (HeldS Z1 g c L) := HS.out.tch HB3.out HS.out.lt
          have HT3 : Hid (Tch (fun k => k = g) w Z1) := HT.out.trans (Tch.of_below (S := fun _ => False) HB3.out) (fun _ q => q.elim)
          have e3 : wrap64 ((k : Int) + 1) = ((k1 : Nat) : Int) := by unfold wrap64; have h1 := HK1.out; have h2 := HKN.out; have h3 := HNC.out; omega
          go_upto_region 5 with fail
          (try simp only [e3])
          clear e3
          cases td : ah (sg L k1) (sg L i)
          · refine wp_region_held_drew (S := fun w' => Below Z1.heap.size Z1 w') (by kernel_rfl) (below_drewN (Below.refl _ _) 1) (fun hH => ?_)
            refine wpAnyH_take (i := 0) (v := .pointer (some ⟨hb, 0, none⟩)) rfl (by kernel_rfl) (by kernel_rfl) (by kernel_rfl) (fun _ _ _ h => h) (.inl ⟨by rfl, fun _ _ => by kernel_rfl⟩) hH ?_
            (try simp only [List.getElem_toArray, List.getElem_cons_zero, Act.put, List.setIfInBounds_toArray, List.set_cons_zero, List.set_cons_succ])
            refine wpAnyH_take (i := 1) (v := .pointer (some ⟨hb, 0, none⟩)) rfl (by kernel_rfl) (by kernel_rfl) (by kernel_rfl) (fun _ _ _ h => h) (.inl ⟨by rfl, fun _ _ => by kernel_rfl⟩) hH ?_
            (try simp only [List.getElem_toArray, List.getElem_cons_zero, List.getElem_cons_succ, Act.put, List.setIfInBounds_toArray, List.set_cons_zero, List.set_cons_succ])
            refine wpAnyH_take (i := 2) (v := .pointer (some ⟨hb, 1, none⟩)) rfl (by kernel_rfl) (by kernel_rfl) (by kernel_rfl) (fun _ _ _ h => h) (.inl ⟨by rfl, fun _ _ => by kernel_rfl⟩) hH ?_
            (try simp only [List.getElem_toArray, List.getElem_cons_zero, List.getElem_cons_succ, Act.put, List.setIfInBounds_toArray, List.set_cons_zero, List.set_cons_succ])
            refine wpAnyH_take (i := 3) (v := fvA f) rfl (by kernel_rfl) (by kernel_rfl) (by kernel_rfl) (fun _ _ _ h => h) (yieldsIf_loadP (by rfl) _ rfl rfl (fun _ s => load_ahead (((HKW3.out.below s HKW3.out.lt).cell 1).trans HC1.out))) hH ?_
            (try simp only [List.getElem_toArray, List.getElem_cons_zero, List.getElem_cons_succ, Act.put, List.setIfInBounds_toArray, List.set_cons_zero, List.set_cons_succ])
            refine wpAnyH_take (i := 4) (v := .pointer (some ⟨hb, 0, none⟩)) rfl (by kernel_rfl) (by kernel_rfl) (by kernel_rfl) (fun _ _ _ h => h) (.inl ⟨by rfl, fun _ _ => by kernel_rfl⟩) hH ?_
            (try simp only [List.getElem_toArray, List.getElem_cons_zero, List.getElem_cons_succ, Act.put, List.setIfInBounds_toArray, List.set_cons_zero, List.set_cons_succ])
            refine wpAnyH_take (i := 5) (v := .pointer (some ⟨hb, 0, none⟩)) rfl (by kernel_rfl) (by kernel_rfl) (by kernel_rfl) (fun _ _ _ h => h) (.inl ⟨by rfl, fun _ _ => by kernel_rfl⟩) hH ?_
            (try simp only [List.getElem_toArray, List.getElem_cons_zero, List.getElem_cons_succ, Act.put, List.setIfInBounds_toArray, List.set_cons_zero, List.set_cons_succ])
            refine wpAnyH_take (i := 6) (v := .pointer (some ⟨hb, 0, none⟩)) rfl (by kernel_rfl) (by kernel_rfl) (by kernel_rfl) (fun _ _ _ h => h) (.inl ⟨by rfl, fun _ _ => by kernel_rfl⟩) hH ?_
            (try simp only [List.getElem_toArray, List.getElem_cons_zero, List.getElem_cons_succ, Act.put, List.setIfInBounds_toArray, List.set_cons_zero, List.set_cons_succ])
            refine wpAnyH_take (i := 7) (v := .slice (some ⟨g, 0, none⟩) n c) rfl (by kernel_rfl) (by kernel_rfl) (by kernel_rfl) (fun _ _ _ h => h) (yieldsIf_loadP (by rfl) _ rfl rfl (fun _ s => load_spots (((HKW3.out.below s HKW3.out.lt).cell 0).trans HC0.out))) hH ?_
            (try simp only [List.getElem_toArray, List.getElem_cons_zero, List.getElem_cons_succ, Act.put, List.setIfInBounds_toArray, List.set_cons_zero, List.set_cons_succ])
            refine wpAnyH_take (i := 8) (v := .int .i64 ((k1 : Nat) : Int)) rfl (by kernel_rfl) (by kernel_rfl) (by kernel_rfl) (fun _ _ _ h => h) (.inl ⟨by rfl, fun _ _ => by kernel_rfl⟩) hH ?_
            (try simp only [List.getElem_toArray, List.getElem_cons_zero, List.getElem_cons_succ, Act.put, List.setIfInBounds_toArray, List.set_cons_zero, List.set_cons_succ])
            refine wpAnyH_take (i := 9) (v := .pointer (some ⟨g, 0 + k1 * 3, none⟩)) rfl (by kernel_rfl) (by kernel_rfl) (by kernel_rfl) (fun _ _ _ h => h) (yieldsIf_indexS Try.underlying25 sizeSpE (by rfl) _ _ rfl rfl rfl HK1N.out) hH ?_
            (try simp only [List.getElem_toArray, List.getElem_cons_zero, List.getElem_cons_succ, Act.put, List.setIfInBounds_toArray, List.set_cons_zero, List.set_cons_succ])
            refine wpAnyH_take (i := 10) (v := spV (sg L k1)) rfl (by kernel_rfl) (by kernel_rfl) (by kernel_rfl) (fun _ _ _ h => h) (yieldsIf_loadP (by rfl) _ rfl rfl (fun _ s => (HS3.out.tch s HS3.out.lt).load HK1L2.out)) hH ?_
            (try simp only [List.getElem_toArray, List.getElem_cons_zero, List.getElem_cons_succ, Act.put, List.setIfInBounds_toArray, List.set_cons_zero, List.set_cons_succ])
            refine wpAnyH_take (i := 11) (v := .pointer (some ⟨hb, 0, none⟩)) rfl (by kernel_rfl) (by kernel_rfl) (by kernel_rfl) (fun _ _ _ h => h) (.inl ⟨by rfl, fun _ _ => by kernel_rfl⟩) hH ?_
            (try simp only [List.getElem_toArray, List.getElem_cons_zero, List.getElem_cons_succ, Act.put, List.setIfInBounds_toArray, List.set_cons_zero, List.set_cons_succ])
            refine wpAnyH_take (i := 12) (v := .pointer (some ⟨hb, 0, none⟩)) rfl (by kernel_rfl) (by kernel_rfl) (by kernel_rfl) (fun _ _ _ h => h) (.inl ⟨by rfl, fun _ _ => by kernel_rfl⟩) hH ?_
            (try simp only [List.getElem_toArray, List.getElem_cons_zero, List.getElem_cons_succ, Act.put, List.setIfInBounds_toArray, List.set_cons_zero, List.set_cons_succ])
            refine wpAnyH_take (i := 13) (v := .pointer (some ⟨hb, 0, none⟩)) rfl (by kernel_rfl) (by kernel_rfl) (by kernel_rfl) (fun _ _ _ h => h) (.inl ⟨by rfl, fun _ _ => by kernel_rfl⟩) hH ?_
            (try simp only [List.getElem_toArray, List.getElem_cons_zero, List.getElem_cons_succ, Act.put, List.setIfInBounds_toArray, List.set_cons_zero, List.set_cons_succ])
            refine wpAnyH_take (i := 14) (v := .slice (some ⟨g, 0, none⟩) n c) rfl (by kernel_rfl) (by kernel_rfl) (by kernel_rfl) (fun _ _ _ h => h) (yieldsIf_loadP (by rfl) _ rfl rfl (fun _ s => load_spots (((HKW3.out.below s HKW3.out.lt).cell 0).trans HC0.out))) hH ?_
            (try simp only [List.getElem_toArray, List.getElem_cons_zero, List.getElem_cons_succ, Act.put, List.setIfInBounds_toArray, List.set_cons_zero, List.set_cons_succ])
            refine wpAnyH_take (i := 15) (v := .int .i64 ((i : Nat) : Int)) rfl (by kernel_rfl) (by kernel_rfl) (by kernel_rfl) (fun _ _ _ h => h) (.inl ⟨by rfl, fun _ _ => by kernel_rfl⟩) hH ?_
            (try simp only [List.getElem_toArray, List.getElem_cons_zero, List.getElem_cons_succ, Act.put, List.setIfInBounds_toArray, List.set_cons_zero, List.set_cons_succ])
            refine wpAnyH_take (i := 16) (v := .pointer (some ⟨g, 0 + i * 3, none⟩)) rfl (by kernel_rfl) (by kernel_rfl) (by kernel_rfl) (fun _ _ _ h => h) (yieldsIf_indexS Try.underlying25 sizeSpE (by rfl) _ _ rfl rfl rfl HIN.out) hH ?_
            (try simp only [List.getElem_toArray, List.getElem_cons_zero, List.getElem_cons_succ, Act.put, List.setIfInBounds_toArray, List.set_cons_zero, List.set_cons_succ])
            refine wpAnyH_take (i := 17) (v := spV (sg L i)) rfl (by kernel_rfl) (by kernel_rfl) (by kernel_rfl) (fun _ _ _ h => h) (yieldsIf_loadP (by rfl) _ rfl rfl (fun _ s => (HS3.out.tch s HS3.out.lt).load HIL2.out)) hH ?_
            (try simp only [List.getElem_toArray, List.getElem_cons_zero, List.getElem_cons_succ, Act.put, List.setIfInBounds_toArray, List.set_cons_zero, List.set_cons_succ])
            refine wpAnyH_call 18 f #[spV (sg L k1), spV (sg L i)] _ (by kernel_rfl) (by rfl) (by kernel_rfl) (run_callv HHF.out.1 (by rfl) (by rfl) (by rfl) (by rfl) _) (HHF.out.2 _ _ _) ?_
            rintro e Z2 ⟨rfl, g2⟩
            rw [td]
            have h2 := hH.trans (g2.below.mono hH.size)
            refine ⟨_, rfl, h2, ?_⟩
            (try simp only [List.getElem_toArray, List.getElem_cons_zero, List.getElem_cons_succ, Act.put, List.setIfInBounds_toArray, List.set_cons_zero, List.set_cons_succ])
            refine wpAnyH_take (i := 19) (v := .bool true) rfl (by kernel_rfl) (by kernel_rfl) (by kernel_rfl) (fun _ _ _ h => h) (.inl ⟨by rfl, fun _ _ => by kernel_rfl⟩) h2 ?_
            (try simp only [List.getElem_toArray, List.getElem_cons_zero, List.getElem_cons_succ, Act.put, List.setIfInBounds_toArray, List.set_cons_zero, List.set_cons_succ])
            refine wpAnyH_done (by kernel_rfl) ?_ _
            go_wp2_with fail
            (try simp only [Exit.inBlock, Exit.then])
            refine bodyPost_ret (results_none rfl _ _ _) rfl ?_
            exact ⟨rfl, L, HU.out.pm, HU.out.stop HOO.out (k := k1) (.inr ⟨HCH.out, td⟩), HS3.out.tch h2 HS3.out.lt, HT3.out.trans (Tch.of_below (S := fun _ => False) h2) (fun k q => q.elim)⟩
          · refine wp_region_held_drew (S := fun w' => Below Z1.heap.size Z1 w') (by kernel_rfl) (below_drewN (Below.refl _ _) 1) (fun hH => ?_)
            refine wpAnyH_take (i := 0) (v := .pointer (some ⟨hb, 0, none⟩)) rfl (by kernel_rfl) (by kernel_rfl) (by kernel_rfl) (fun _ _ _ h => h) (.inl ⟨by rfl, fun _ _ => by kernel_rfl⟩) hH ?_
            (try simp only [List.getElem_toArray, List.getElem_cons_zero, Act.put, List.setIfInBounds_toArray, List.set_cons_zero, List.set_cons_succ])
            refine wpAnyH_take (i := 1) (v := .pointer (some ⟨hb, 0, none⟩)) rfl (by kernel_rfl) (by kernel_rfl) (by kernel_rfl) (fun _ _ _ h => h) (.inl ⟨by rfl, fun _ _ => by kernel_rfl⟩) hH ?_
            (try simp only [List.getElem_toArray, List.getElem_cons_zero, List.getElem_cons_succ, Act.put, List.setIfInBounds_toArray, List.set_cons_zero, List.set_cons_succ])
            refine wpAnyH_take (i := 2) (v := .pointer (some ⟨hb, 1, none⟩)) rfl (by kernel_rfl) (by kernel_rfl) (by kernel_rfl) (fun _ _ _ h => h) (.inl ⟨by rfl, fun _ _ => by kernel_rfl⟩) hH ?_
            (try simp only [List.getElem_toArray, List.getElem_cons_zero, List.getElem_cons_succ, Act.put, List.setIfInBounds_toArray, List.set_cons_zero, List.set_cons_succ])
            refine wpAnyH_take (i := 3) (v := fvA f) rfl (by kernel_rfl) (by kernel_rfl) (by kernel_rfl) (fun _ _ _ h => h) (yieldsIf_loadP (by rfl) _ rfl rfl (fun _ s => load_ahead (((HKW3.out.below s HKW3.out.lt).cell 1).trans HC1.out))) hH ?_
            (try simp only [List.getElem_toArray, List.getElem_cons_zero, List.getElem_cons_succ, Act.put, List.setIfInBounds_toArray, List.set_cons_zero, List.set_cons_succ])
            refine wpAnyH_take (i := 4) (v := .pointer (some ⟨hb, 0, none⟩)) rfl (by kernel_rfl) (by kernel_rfl) (by kernel_rfl) (fun _ _ _ h => h) (.inl ⟨by rfl, fun _ _ => by kernel_rfl⟩) hH ?_
            (try simp only [List.getElem_toArray, List.getElem_cons_zero, List.getElem_cons_succ, Act.put, List.setIfInBounds_toArray, List.set_cons_zero, List.set_cons_succ])
            refine wpAnyH_take (i := 5) (v := .pointer (some ⟨hb, 0, none⟩)) rfl (by kernel_rfl) (by kernel_rfl) (by kernel_rfl) (fun _ _ _ h => h) (.inl ⟨by rfl, fun _ _ => by kernel_rfl⟩) hH ?_
            (try simp only [List.getElem_toArray, List.getElem_cons_zero, List.getElem_cons_succ, Act.put, List.setIfInBounds_toArray, List.set_cons_zero, List.set_cons_succ])
            refine wpAnyH_take (i := 6) (v := .pointer (some ⟨hb, 0, none⟩)) rfl (by kernel_rfl) (by kernel_rfl) (by kernel_rfl) (fun _ _ _ h => h) (.inl ⟨by rfl, fun _ _ => by kernel_rfl⟩) hH ?_
            (try simp only [List.getElem_toArray, List.getElem_cons_zero, List.getElem_cons_succ, Act.put, List.setIfInBounds_toArray, List.set_cons_zero, List.set_cons_succ])
            refine wpAnyH_take (i := 7) (v := .slice (some ⟨g, 0, none⟩) n c) rfl (by kernel_rfl) (by kernel_rfl) (by kernel_rfl) (fun _ _ _ h => h) (yieldsIf_loadP (by rfl) _ rfl rfl (fun _ s => load_spots (((HKW3.out.below s HKW3.out.lt).cell 0).trans HC0.out))) hH ?_
            (try simp only [List.getElem_toArray, List.getElem_cons_zero, List.getElem_cons_succ, Act.put, List.setIfInBounds_toArray, List.set_cons_zero, List.set_cons_succ])
            refine wpAnyH_take (i := 8) (v := .int .i64 ((k1 : Nat) : Int)) rfl (by kernel_rfl) (by kernel_rfl) (by kernel_rfl) (fun _ _ _ h => h) (.inl ⟨by rfl, fun _ _ => by kernel_rfl⟩) hH ?_
            (try simp only [List.getElem_toArray, List.getElem_cons_zero, List.getElem_cons_succ, Act.put, List.setIfInBounds_toArray, List.set_cons_zero, List.set_cons_succ])
            refine wpAnyH_take (i := 9) (v := .pointer (some ⟨g, 0 + k1 * 3, none⟩)) rfl (by kernel_rfl) (by kernel_rfl) (by kernel_rfl) (fun _ _ _ h => h) (yieldsIf_indexS Try.underlying25 sizeSpE (by rfl) _ _ rfl rfl rfl HK1N.out) hH ?_
            (try simp only [List.getElem_toArray, List.getElem_cons_zero, List.getElem_cons_succ, Act.put, List.setIfInBounds_toArray, List.set_cons_zero, List.set_cons_succ])
            refine wpAnyH_take (i := 10) (v := spV (sg L k1)) rfl (by kernel_rfl) (by kernel_rfl) (by kernel_rfl) (fun _ _ _ h => h) (yieldsIf_loadP (by rfl) _ rfl rfl (fun _ s => (HS3.out.tch s HS3.out.lt).load HK1L2.out)) hH ?_
            (try simp only [List.getElem_toArray, List.getElem_cons_zero, List.getElem_cons_succ, Act.put, List.setIfInBounds_toArray, List.set_cons_zero, List.set_cons_succ])
            refine wpAnyH_take (i := 11) (v := .pointer (some ⟨hb, 0, none⟩)) rfl (by kernel_rfl) (by kernel_rfl) (by kernel_rfl) (fun _ _ _ h => h) (.inl ⟨by rfl, fun _ _ => by kernel_rfl⟩) hH ?_
            (try simp only [List.getElem_toArray, List.getElem_cons_zero, List.getElem_cons_succ, Act.put, List.setIfInBounds_toArray, List.set_cons_zero, List.set_cons_succ])
            refine wpAnyH_take (i := 12) (v := .pointer (some ⟨hb, 0, none⟩)) rfl (by kernel_rfl) (by kernel_rfl) (by kernel_rfl) (fun _ _ _ h => h) (.inl ⟨by rfl, fun _ _ => by kernel_rfl⟩) hH ?_
            (try simp only [List.getElem_toArray, List.getElem_cons_zero, List.getElem_cons_succ, Act.put, List.setIfInBounds_toArray, List.set_cons_zero, List.set_cons_succ])
            refine wpAnyH_take (i := 13) (v := .pointer (some ⟨hb, 0, none⟩)) rfl (by kernel_rfl) (by kernel_rfl) (by kernel_rfl) (fun _ _ _ h => h) (.inl ⟨by rfl, fun _ _ => by kernel_rfl⟩) hH ?_
            (try simp only [List.getElem_toArray, List.getElem_cons_zero, List.getElem_cons_succ, Act.put, List.setIfInBounds_toArray, List.set_cons_zero, List.set_cons_succ])
            refine wpAnyH_take (i := 14) (v := .slice (some ⟨g, 0, none⟩) n c) rfl (by kernel_rfl) (by kernel_rfl) (by kernel_rfl) (fun _ _ _ h => h) (yieldsIf_loadP (by rfl) _ rfl rfl (fun _ s => load_spots (((HKW3.out.below s HKW3.out.lt).cell 0).trans HC0.out))) hH ?_
            (try simp only [List.getElem_toArray, List.getElem_cons_zero, List.getElem_cons_succ, Act.put, List.setIfInBounds_toArray, List.set_cons_zero, List.set_cons_succ])
            refine wpAnyH_take (i := 15) (v := .int .i64 ((i : Nat) : Int)) rfl (by kernel_rfl) (by kernel_rfl) (by kernel_rfl) (fun _ _ _ h => h) (.inl ⟨by rfl, fun _ _ => by kernel_rfl⟩) hH ?_
            (try simp only [List.getElem_toArray, List.getElem_cons_zero, List.getElem_cons_succ, Act.put, List.setIfInBounds_toArray, List.set_cons_zero, List.set_cons_succ])
            refine wpAnyH_take (i := 16) (v := .pointer (some ⟨g, 0 + i * 3, none⟩)) rfl (by kernel_rfl) (by kernel_rfl) (by kernel_rfl) (fun _ _ _ h => h) (yieldsIf_indexS Try.underlying25 sizeSpE (by rfl) _ _ rfl rfl rfl HIN.out) hH ?_
            (try simp only [List.getElem_toArray, List.getElem_cons_zero, List.getElem_cons_succ, Act.put, List.setIfInBounds_toArray, List.set_cons_zero, List.set_cons_succ])
            refine wpAnyH_take (i := 17) (v := spV (sg L i)) rfl (by kernel_rfl) (by kernel_rfl) (by kernel_rfl) (fun _ _ _ h => h) (yieldsIf_loadP (by rfl) _ rfl rfl (fun _ s => (HS3.out.tch s HS3.out.lt).load HIL2.out)) hH ?_
            (try simp only [List.getElem_toArray, List.getElem_cons_zero, List.getElem_cons_succ, Act.put, List.setIfInBounds_toArray, List.set_cons_zero, List.set_cons_succ])
            refine wpAnyH_call 18 f #[spV (sg L k1), spV (sg L i)] _ (by kernel_rfl) (by rfl) (by kernel_rfl) (run_callv HHF.out.1 (by rfl) (by rfl) (by rfl) (by rfl) _) (HHF.out.2 _ _ _) ?_
            rintro e Z2 ⟨rfl, g2⟩
            rw [td]
            have h2 := hH.trans (g2.below.mono hH.size)
            refine ⟨_, rfl, h2, ?_⟩
            (try simp only [List.getElem_toArray, List.getElem_cons_zero, List.getElem_cons_succ, Act.put, List.setIfInBounds_toArray, List.set_cons_zero, List.set_cons_succ])
            refine wpAnyH_take (i := 19) (v := .bool false) rfl (by kernel_rfl) (by kernel_rfl) (by kernel_rfl) (fun _ _ _ h => h) (.inl ⟨by rfl, fun _ _ => by kernel_rfl⟩) h2 ?_
            (try simp only [List.getElem_toArray, List.getElem_cons_zero, List.getElem_cons_succ, Act.put, List.setIfInBounds_toArray, List.set_cons_zero, List.set_cons_succ])
            refine wpAnyH_done (by kernel_rfl) ?_ _
            have HKW2 : Hid (Blk Z2 hb T C) := HKW3.out.below h2 HKW3.out.lt
            have HSW : Hid (HeldS Z2.drew g c L) := HS3.out.tch (w' := Z2.drew) (below_drewN h2 1) HS3.out.lt
            have HTW : Hid (Tch (fun k => k = g) w Z2) := HT3.out.trans (Tch.of_below (S := fun _ => False) h2) (fun k q => q.elim)
            clear h2 g2
            go_upto_region 6 with fail
            refine wp_region_held_drew (S := fun w' => Tch (fun k => k = g) Z2 w') (by kernel_rfl) ((Tch.refl _ Z2).drewN 1) (fun hH2 => ?_)
            refine wpAnyH_take (i := 0) (v := .pointer (some ⟨hb, 0, none⟩)) rfl (by kernel_rfl) (by kernel_rfl) (by kernel_rfl) (fun _ _ _ h => h) (.inl ⟨by rfl, fun _ _ => by kernel_rfl⟩) hH2 ?_
            (try simp only [List.getElem_toArray, List.getElem_cons_zero, Act.put, List.setIfInBounds_toArray, List.set_cons_zero, List.set_cons_succ])
            refine wpAnyH_take (i := 1) (v := .pointer (some ⟨hb, 0, none⟩)) rfl (by kernel_rfl) (by kernel_rfl) (by kernel_rfl) (fun _ _ _ h => h) (.inl ⟨by rfl, fun _ _ => by kernel_rfl⟩) hH2 ?_
            (try simp only [List.getElem_toArray, List.getElem_cons_zero, List.getElem_cons_succ, Act.put, List.setIfInBounds_toArray, List.set_cons_zero, List.set_cons_succ])
            refine wpAnyH_take (i := 2) (v := .pointer (some ⟨hb, 0, none⟩)) rfl (by kernel_rfl) (by kernel_rfl) (by kernel_rfl) (fun _ _ _ h => h) (.inl ⟨by rfl, fun _ _ => by kernel_rfl⟩) hH2 ?_
            (try simp only [List.getElem_toArray, List.getElem_cons_zero, List.getElem_cons_succ, Act.put, List.setIfInBounds_toArray, List.set_cons_zero, List.set_cons_succ])
            refine wpAnyH_take (i := 3) (v := .slice (some ⟨g, 0, none⟩) n c) rfl (by kernel_rfl) (by kernel_rfl) (by kernel_rfl) (fun _ _ _ h => h) (yieldsIf_loadP (by rfl) _ rfl rfl (fun _ s => load_spots (((HKW2.out.tch s HNE.out).cell 0).trans HC0.out))) hH2 ?_
            (try simp only [List.getElem_toArray, List.getElem_cons_zero, List.getElem_cons_succ, Act.put, List.setIfInBounds_toArray, List.set_cons_zero, List.set_cons_succ])
            refine wpAnyH_take (i := 4) (v := .int .i64 ((i : Nat) : Int)) rfl (by kernel_rfl) (by kernel_rfl) (by kernel_rfl) (fun _ _ _ h => h) (.inl ⟨by rfl, fun _ _ => by kernel_rfl⟩) hH2 ?_
            (try simp only [List.getElem_toArray, List.getElem_cons_zero, List.getElem_cons_succ, Act.put, List.setIfInBounds_toArray, List.set_cons_zero, List.set_cons_succ])
            refine wpAnyH_take (i := 5) (v := .pointer (some ⟨hb, 0, none⟩)) rfl (by kernel_rfl) (by kernel_rfl) (by kernel_rfl) (fun _ _ _ h => h) (.inl ⟨by rfl, fun _ _ => by kernel_rfl⟩) hH2 ?_
            (try simp only [List.getElem_toArray, List.getElem_cons_zero, List.getElem_cons_succ, Act.put, List.setIfInBounds_toArray, List.set_cons_zero, List.set_cons_succ])
            refine wpAnyH_take (i := 6) (v := .pointer (some ⟨hb, 0, none⟩)) rfl (by kernel_rfl) (by kernel_rfl) (by kernel_rfl) (fun _ _ _ h => h) (.inl ⟨by rfl, fun _ _ => by kernel_rfl⟩) hH2 ?_
            (try simp only [List.getElem_toArray, List.getElem_cons_zero, List.getElem_cons_succ, Act.put, List.setIfInBounds_toArray, List.set_cons_zero, List.set_cons_succ])
            refine wpAnyH_take (i := 7) (v := .pointer (some ⟨hb, 0, none⟩)) rfl (by kernel_rfl) (by kernel_rfl) (by kernel_rfl) (fun _ _ _ h => h) (.inl ⟨by rfl, fun _ _ => by kernel_rfl⟩) hH2 ?_
            (try simp only [List.getElem_toArray, List.getElem_cons_zero, List.getElem_cons_succ, Act.put, List.setIfInBounds_toArray, List.set_cons_zero, List.set_cons_succ])
            refine wpAnyH_take (i := 8) (v := .slice (some ⟨g, 0, none⟩) n c) rfl (by kernel_rfl) (by kernel_rfl) (by kernel_rfl) (fun _ _ _ h => h) (yieldsIf_loadP (by rfl) _ rfl rfl (fun _ s => load_spots (((HKW2.out.tch s HNE.out).cell 0).trans HC0.out))) hH2 ?_
            (try simp only [List.getElem_toArray, List.getElem_cons_zero, List.getElem_cons_succ, Act.put, List.setIfInBounds_toArray, List.set_cons_zero, List.set_cons_succ])
            refine wpAnyH_take (i := 9) (v := .int .i64 ((k1 : Nat) : Int)) rfl (by kernel_rfl) (by kernel_rfl) (by kernel_rfl) (fun _ _ _ h => h) (.inl ⟨by rfl, fun _ _ => by kernel_rfl⟩) hH2 ?_
            (try simp only [List.getElem_toArray, List.getElem_cons_zero, List.getElem_cons_succ, Act.put, List.setIfInBounds_toArray, List.set_cons_zero, List.set_cons_succ])
            refine wpAnyH_take (i := 10) (v := .pointer (some ⟨hb, 0, none⟩)) rfl (by kernel_rfl) (by kernel_rfl) (by kernel_rfl) (fun _ _ _ h => h) (.inl ⟨by rfl, fun _ _ => by kernel_rfl⟩) hH2 ?_
            (try simp only [List.getElem_toArray, List.getElem_cons_zero, List.getElem_cons_succ, Act.put, List.setIfInBounds_toArray, List.set_cons_zero, List.set_cons_succ])
            refine wpAnyH_take (i := 11) (v := .pointer (some ⟨hb, 0, none⟩)) rfl (by kernel_rfl) (by kernel_rfl) (by kernel_rfl) (fun _ _ _ h => h) (.inl ⟨by rfl, fun _ _ => by kernel_rfl⟩) hH2 ?_
            (try simp only [List.getElem_toArray, List.getElem_cons_zero, List.getElem_cons_succ, Act.put, List.setIfInBounds_toArray, List.set_cons_zero, List.set_cons_succ])
            refine wpAnyH_take (i := 12) (v := .pointer (some ⟨hb, 0, none⟩)) rfl (by kernel_rfl) (by kernel_rfl) (by kernel_rfl) (fun _ _ _ h => h) (.inl ⟨by rfl, fun _ _ => by kernel_rfl⟩) hH2 ?_
            (try simp only [List.getElem_toArray, List.getElem_cons_zero, List.getElem_cons_succ, Act.put, List.setIfInBounds_toArray, List.set_cons_zero, List.set_cons_succ])
            refine wpAnyH_take (i := 13) (v := .slice (some ⟨g, 0, none⟩) n c) rfl (by kernel_rfl) (by kernel_rfl) (by kernel_rfl) (fun _ _ _ h => h) (yieldsIf_loadP (by rfl) _ rfl rfl (fun _ s => load_spots (((HKW2.out.tch s HNE.out).cell 0).trans HC0.out))) hH2 ?_
            (try simp only [List.getElem_toArray, List.getElem_cons_zero, List.getElem_cons_succ, Act.put, List.setIfInBounds_toArray, List.set_cons_zero, List.set_cons_succ])
            refine wpAnyH_take (i := 14) (v := .int .i64 ((k1 : Nat) : Int)) rfl (by kernel_rfl) (by kernel_rfl) (by kernel_rfl) (fun _ _ _ h => h) (.inl ⟨by rfl, fun _ _ => by kernel_rfl⟩) hH2 ?_
            (try simp only [List.getElem_toArray, List.getElem_cons_zero, List.getElem_cons_succ, Act.put, List.setIfInBounds_toArray, List.set_cons_zero, List.set_cons_succ])
            refine wpAnyH_take (i := 15) (v := .pointer (some ⟨g, 0 + k1 * 3, none⟩)) rfl (by kernel_rfl) (by kernel_rfl) (by kernel_rfl) (fun _ _ _ h => h) (yieldsIf_indexS Try.underlying25 sizeSpE (by rfl) _ _ rfl rfl rfl HK1N.out) hH2 ?_
            (try simp only [List.getElem_toArray, List.getElem_cons_zero, List.getElem_cons_succ, Act.put, List.setIfInBounds_toArray, List.set_cons_zero, List.set_cons_succ])
            refine wpAnyH_take (i := 17) (v := .pointer (some ⟨hb, 0, none⟩)) rfl (by kernel_rfl) (by kernel_rfl) (by kernel_rfl) (fun _ _ _ h => h) (.inl ⟨by rfl, fun _ _ => by kernel_rfl⟩) hH2 ?_
            (try simp only [List.getElem_toArray, List.getElem_cons_zero, List.getElem_cons_succ, Act.put, List.setIfInBounds_toArray, List.set_cons_zero, List.set_cons_succ])
            refine wpAnyH_take (i := 18) (v := .pointer (some ⟨hb, 0, none⟩)) rfl (by kernel_rfl) (by kernel_rfl) (by kernel_rfl) (fun _ _ _ h => h) (.inl ⟨by rfl, fun _ _ => by kernel_rfl⟩) hH2 ?_
            (try simp only [List.getElem_toArray, List.getElem_cons_zero, List.getElem_cons_succ, Act.put, List.setIfInBounds_toArray, List.set_cons_zero, List.set_cons_succ])
            refine wpAnyH_take (i := 19) (v := .pointer (some ⟨hb, 0, none⟩)) rfl (by kernel_rfl) (by kernel_rfl) (by kernel_rfl) (fun _ _ _ h => h) (.inl ⟨by rfl, fun _ _ => by kernel_rfl⟩) hH2 ?_
            (try simp only [List.getElem_toArray, List.getElem_cons_zero, List.getElem_cons_succ, Act.put, List.setIfInBounds_toArray, List.set_cons_zero, List.set_cons_succ])
            refine wpAnyH_take (i := 20) (v := .slice (some ⟨g, 0, none⟩) n c) rfl (by kernel_rfl) (by kernel_rfl) (by kernel_rfl) (fun _ _ _ h => h) (yieldsIf_loadP (by rfl) _ rfl rfl (fun _ s => load_spots (((HKW2.out.tch s HNE.out).cell 0).trans HC0.out))) hH2 ?_
            (try simp only [List.getElem_toArray, List.getElem_cons_zero, List.getElem_cons_succ, Act.put, List.setIfInBounds_toArray, List.set_cons_zero, List.set_cons_succ])
            refine wpAnyH_take (i := 21) (v := .int .i64 ((i : Nat) : Int)) rfl (by kernel_rfl) (by kernel_rfl) (by kernel_rfl) (fun _ _ _ h => h) (.inl ⟨by rfl, fun _ _ => by kernel_rfl⟩) hH2 ?_
            (try simp only [List.getElem_toArray, List.getElem_cons_zero, List.getElem_cons_succ, Act.put, List.setIfInBounds_toArray, List.set_cons_zero, List.set_cons_succ])
            refine wpAnyH_take (i := 22) (v := .pointer (some ⟨g, 0 + i * 3, none⟩)) rfl (by kernel_rfl) (by kernel_rfl) (by kernel_rfl) (fun _ _ _ h => h) (yieldsIf_indexS Try.underlying25 sizeSpE (by rfl) _ _ rfl rfl rfl HIN.out) hH2 ?_
            (try simp only [List.getElem_toArray, List.getElem_cons_zero, List.getElem_cons_succ, Act.put, List.setIfInBounds_toArray, List.set_cons_zero, List.set_cons_succ])
            refine wpAnyH_all (rs := [16, 23]) (by kernel_rfl) (by simp) (fun i9 hi9 => ?_)
            rcases (by simpa using hi9 : i9 = 16 ∨ i9 = 23) with rfl | rfl
            · refine wpOp_value (spV (sg L k1)) (by rfl) (by kernel_rfl) (exec_loadK (by rfl) (by rfl) (HSW.out.load HK1L2.out)) ⟨hH2, ?_⟩
              (try simp only [List.getElem_toArray, List.getElem_cons_zero, List.getElem_cons_succ, Act.put, List.setIfInBounds_toArray, List.set_cons_zero, List.set_cons_succ])
              refine wpAnyH_value 23 (spV (sg L i)) (by kernel_rfl) (by rfl) (by kernel_rfl) (exec_loadK (by rfl) (by rfl) (HSW.out.load HIL2.out)) hH2 ?_
              (try simp only [List.getElem_toArray, List.getElem_cons_zero, List.getElem_cons_succ, Act.put, List.setIfInBounds_toArray, List.set_cons_zero, List.set_cons_succ])
              refine wpAnyH_take (i := 24) (v := .pointer (some ⟨g, 0 + i * 3, none⟩)) rfl (by kernel_rfl) (by kernel_rfl) (by kernel_rfl) (fun _ _ _ h => h) (yieldsIf_indexS Try.underlying25 sizeSpE (by rfl) _ _ rfl rfl rfl HIN.out) hH2 ?_
              (try simp only [List.getElem_toArray, List.getElem_cons_zero, List.getElem_cons_succ, Act.put, List.setIfInBounds_toArray, List.set_cons_zero, List.set_cons_succ])
              have hH3 : Tch (fun k => k = g) Z2 (Z2.drew.setCells g (i * 3) (spC (sg L k1)).toList) := Tch.setCells (S := fun k => k = g) rfl _ _ _ hH2
              refine wpAnyH_store 25 _ _ _ (by kernel_rfl) (by rfl) (by kernel_rfl) (by rfl) (by rfl) (by rfl) (HSW.out.store (sg L k1) HIC.out) hH3 ?_
              (try simp only [List.getElem_toArray, List.getElem_cons_zero, List.getElem_cons_succ, Act.put])
              refine wpAnyH_take (i := 26) (v := .pointer (some ⟨g, 0 + k1 * 3, none⟩)) rfl (by kernel_rfl) (by kernel_rfl) (by kernel_rfl) (fun _ _ _ h => h) (yieldsIf_indexS Try.underlying25 sizeSpE (by rfl) _ _ rfl rfl rfl HK1N.out) hH3 ?_
              (try simp only [List.getElem_toArray, List.getElem_cons_zero, List.getElem_cons_succ, Act.put, List.setIfInBounds_toArray, List.set_cons_zero, List.set_cons_succ])
              refine wpAnyH_store 27 _ _ _ (by kernel_rfl) (by rfl) (by kernel_rfl) (by rfl) (by rfl) (by rfl) ((HSW.out.set (sg L k1) HIC.out).store (sg L i) HK1C.out) (Tch.setCells (S := fun k => k = g) rfl _ _ _ hH3) ?_
              (try simp only [List.getElem_toArray, List.getElem_cons_zero, List.getElem_cons_succ, Act.put])
              refine wpAnyH_done (by kernel_rfl) ?_ _
              have HSV := Lib.hid ((HSW.out.set (sg L k1) HIC.out).set (sg L i) HK1C.out)
              have HTV : Hid (Tch (fun k => k = g) Z2 _) := Tch.setCells (S := fun k => k = g) rfl ((spC (sg L i)).toList) (k1 * 3) _ hH3
              go_wp2_with fail
              go_roundw
              case rel => exact ⟨k1, swp L i k1, Nat.le_of_lt HK1N.out, rfl, HU.out.step HOO.out HKK.out.1 HK1L2.out HKK.out.2 HCH.out td, HSV.out, HTW.out.trans HTV.out (fun k q => .inl q)⟩
              case measure => have h1 := HKK.out; have h2 := HK1N.out; simp [intOf]; omega
            · refine wpOp_value (spV (sg L i)) (by rfl) (by kernel_rfl) (exec_loadK (by rfl) (by rfl) (HSW.out.load HIL2.out)) ⟨hH2, ?_⟩
              (try simp only [List.getElem_toArray, List.getElem_cons_zero, List.getElem_cons_succ, Act.put, List.setIfInBounds_toArray, List.set_cons_zero, List.set_cons_succ])
              refine wpAnyH_value 16 (spV (sg L k1)) (by kernel_rfl) (by rfl) (by kernel_rfl) (exec_loadK (by rfl) (by rfl) (HSW.out.load HK1L2.out)) hH2 ?_
              (try simp only [List.getElem_toArray, List.getElem_cons_zero, List.getElem_cons_succ, Act.put, List.setIfInBounds_toArray, List.set_cons_zero, List.set_cons_succ])
              refine wpAnyH_take (i := 24) (v := .pointer (some ⟨g, 0 + i * 3, none⟩)) rfl (by kernel_rfl) (by kernel_rfl) (by kernel_rfl) (fun _ _ _ h => h) (yieldsIf_indexS Try.underlying25 sizeSpE (by rfl) _ _ rfl rfl rfl HIN.out) hH2 ?_
              (try simp only [List.getElem_toArray, List.getElem_cons_zero, List.getElem_cons_succ, Act.put, List.setIfInBounds_toArray, List.set_cons_zero, List.set_cons_succ])
              have hH3 : Tch (fun k => k = g) Z2 (Z2.drew.setCells g (i * 3) (spC (sg L k1)).toList) := Tch.setCells (S := fun k => k = g) rfl _ _ _ hH2
              refine wpAnyH_store 25 _ _ _ (by kernel_rfl) (by rfl) (by kernel_rfl) (by rfl) (by rfl) (by rfl) (HSW.out.store (sg L k1) HIC.out) hH3 ?_
              (try simp only [List.getElem_toArray, List.getElem_cons_zero, List.getElem_cons_succ, Act.put])
              refine wpAnyH_take (i := 26) (v := .pointer (some ⟨g, 0 + k1 * 3, none⟩)) rfl (by kernel_rfl) (by kernel_rfl) (by kernel_rfl) (fun _ _ _ h => h) (yieldsIf_indexS Try.underlying25 sizeSpE (by rfl) _ _ rfl rfl rfl HK1N.out) hH3 ?_
              (try simp only [List.getElem_toArray, List.getElem_cons_zero, List.getElem_cons_succ, Act.put, List.setIfInBounds_toArray, List.set_cons_zero, List.set_cons_succ])
              refine wpAnyH_store 27 _ _ _ (by kernel_rfl) (by rfl) (by kernel_rfl) (by rfl) (by rfl) (by rfl) ((HSW.out.set (sg L k1) HIC.out).store (sg L i) HK1C.out) (Tch.setCells (S := fun k => k = g) rfl _ _ _ hH3) ?_
              (try simp only [List.getElem_toArray, List.getElem_cons_zero, List.getElem_cons_succ, Act.put])
              refine wpAnyH_done (by kernel_rfl) ?_ _
              have HSV := Lib.hid ((HSW.out.set (sg L k1) HIC.out).set (sg L i) HK1C.out)
              have HTV : Hid (Tch (fun k => k = g) Z2 _) := Tch.setCells (S := fun k => k = g) rfl ((spC (sg L i)).toList) (k1 * 3) _ hH3
              go_wp2_with fail
              go_roundw
              case rel => exact ⟨k1, swp L i k1, Nat.le_of_lt HK1N.out, rfl, HU.out.step HOO.out HKK.out.1 HK1L2.out HKK.out.2 HCH.out td, HSV.out, HTW.out.trans HTV.out (fun k q => .inl q)⟩
              case measure => have h1 := HKK.out; have h2 := HK1N.out; simp [intOf]; omega
      · have H3 : Hid (decide (((k1 : Nat) : Int) < (n : Int)) = false) := decide_eq_false (by omega)
        have H3N := Lib.hid h3
        clear h3 hk1
        have HKK : Hid (0 < k ∧ (k - 1) / 2 = i) := by have h1 := HK.out; show _ ∧ _; omega
        have HCH : Hid (∀ j, 0 < j → j < L.length → (j - 1) / 2 = i → ah (sg L j) (sg L k) = false) := by
          intro j j0 jl jq
          have h1 := HK.out
          have h2 := HK1.out
          rcases (by omega : j = k ∨ j = k1) with rfl | rfl
          · exact HOO.out.irr _
          · exact absurd jl (by rw [HIL.out]; exact H3N.out)
        refine wp_region_held_drew (S := fun w' => Below wr.heap.size wr w') (by kernel_rfl) (below_drewN (Below.refl _ _) 1) (fun hH => ?_)
        refine wpAnyH_take (i := 0) (v := .int .i64 ((k : Nat) : Int)) rfl (by kernel_rfl) (by kernel_rfl) (by kernel_rfl) (fun _ _ _ h => h) (.inl ⟨by rfl, fun _ _ => by kernel_rfl⟩) hH ?_
        (try simp only [List.getElem_toArray, List.getElem_cons_zero, Act.put, List.setIfInBounds_toArray, List.set_cons_zero, List.set_cons_succ])
        refine wpAnyH_take (i := 1) (v := .int .i64 ((k1 : Nat) : Int)) rfl (by kernel_rfl) (by kernel_rfl) (by kernel_rfl) (fun _ _ _ h => h) (yieldsIf_addC HKA.out (by rfl) _ _ rfl rfl rfl) hH ?_
        (try simp only [List.getElem_toArray, List.getElem_cons_zero, List.getElem_cons_succ, Act.put, List.setIfInBounds_toArray, List.set_cons_zero, List.set_cons_succ])
        refine wpAnyH_take (i := 2) (v := .pointer (some ⟨hb, 0, none⟩)) rfl (by kernel_rfl) (by kernel_rfl) (by kernel_rfl) (fun _ _ _ h => h) (.inl ⟨by rfl, fun _ _ => by kernel_rfl⟩) hH ?_
        (try simp only [List.getElem_toArray, List.getElem_cons_zero, List.getElem_cons_succ, Act.put, List.setIfInBounds_toArray, List.set_cons_zero, List.set_cons_succ])
        refine wpAnyH_take (i := 3) (v := .pointer (some ⟨hb, 0, none⟩)) rfl (by kernel_rfl) (by kernel_rfl) (by kernel_rfl) (fun _ _ _ h => h) (.inl ⟨by rfl, fun _ _ => by kernel_rfl⟩) hH ?_
        (try simp only [List.getElem_toArray, List.getElem_cons_zero, List.getElem_cons_succ, Act.put, List.setIfInBounds_toArray, List.set_cons_zero, List.set_cons_succ])
        refine wpAnyH_take (i := 4) (v := .pointer (some ⟨hb, 0, none⟩)) rfl (by kernel_rfl) (by kernel_rfl) (by kernel_rfl) (fun _ _ _ h => h) (.inl ⟨by rfl, fun _ _ => by kernel_rfl⟩) hH ?_
        (try simp only [List.getElem_toArray, List.getElem_cons_zero, List.getElem_cons_succ, Act.put, List.setIfInBounds_toArray, List.set_cons_zero, List.set_cons_succ])
        refine wpAnyH_take (i := 5) (v := .slice (some ⟨g, 0, none⟩) n c) rfl (by kernel_rfl) (by kernel_rfl) (by kernel_rfl) (fun _ _ _ h => h) (yieldsIf_loadP (by rfl) _ rfl rfl (fun _ s => load_spots (((HKW.out.below s HKW.out.lt).cell 0).trans HC0.out))) hH ?_
        (try simp only [List.getElem_toArray, List.getElem_cons_zero, List.getElem_cons_succ, Act.put, List.setIfInBounds_toArray, List.set_cons_zero, List.set_cons_succ])
        refine wpAnyH_take (i := 6) (v := .int .i64 n) rfl (by kernel_rfl) (by kernel_rfl) (by kernel_rfl) (fun _ _ _ h => h) (.inl ⟨by rfl, fun _ _ => by kernel_rfl⟩) hH ?_
        (try simp only [List.getElem_toArray, List.getElem_cons_zero, List.getElem_cons_succ, Act.put, List.setIfInBounds_toArray, List.set_cons_zero, List.set_cons_succ])
        refine wpAnyH_take (i := 7) (v := .bool false) rfl (by kernel_rfl) (by kernel_rfl) (by kernel_rfl) (fun _ _ _ h => h) (yieldsIf_lssC H3.out (by rfl) _ _ rfl rfl rfl) hH ?_
        (try simp only [List.getElem_toArray, List.getElem_cons_zero, List.getElem_cons_succ, Act.put, List.setIfInBounds_toArray, List.set_cons_zero, List.set_cons_succ])
        refine wpAnyH_take (i := 8) (v := .bool false) rfl (by kernel_rfl) (by kernel_rfl) (by kernel_rfl) (fun _ _ _ h => h) (.inl ⟨by rfl, fun _ _ => by kernel_rfl⟩) hH ?_
        (try simp only [List.getElem_toArray, List.getElem_cons_zero, List.getElem_cons_succ, Act.put, List.setIfInBounds_toArray, List.set_cons_zero, List.set_cons_succ])
        refine wpAnyH_take (i := 9) (v := undef) rfl (by kernel_rfl) (by kernel_rfl) (by kernel_rfl) (fun _ _ _ h => h) (.inr ⟨by rfl, rfl⟩) hH ?_
        (try simp only [List.getElem_toArray, List.getElem_cons_zero, List.getElem_cons_succ, Act.put, List.setIfInBounds_toArray, List.set_cons_zero, List.set_cons_succ])
        refine wpAnyH_take (i := 10) (v := undef) rfl (by kernel_rfl) (by kernel_rfl) (by kernel_rfl) (fun _ _ _ h => h) (.inr ⟨by rfl, rfl⟩) hH ?_
        (try simp only [List.getElem_toArray, List.getElem_cons_zero, List.getElem_cons_succ, Act.put, List.setIfInBounds_toArray, List.set_cons_zero, List.set_cons_succ])
        refine wpAnyH_take (i := 11) (v := undef) rfl (by kernel_rfl) (by kernel_rfl) (by kernel_rfl) (fun _ _ _ h => h) (.inr ⟨by rfl, rfl⟩) hH ?_
        (try simp only [List.getElem_toArray, List.getElem_cons_zero, List.getElem_cons_succ, Act.put, List.setIfInBounds_toArray, List.set_cons_zero, List.set_cons_succ])
        refine wpAnyH_take (i := 12) (v := undef) rfl (by kernel_rfl) (by kernel_rfl) (by kernel_rfl) (fun _ _ _ h => h) (.inr ⟨by rfl, rfl⟩) hH ?_
        (try simp only [List.getElem_toArray, List.getElem_cons_zero, List.getElem_cons_succ, Act.put, List.setIfInBounds_toArray, List.set_cons_zero, List.set_cons_succ])
        refine wpAnyH_take (i := 13) (v := undef) rfl (by kernel_rfl) (by kernel_rfl) (by kernel_rfl) (fun _ _ _ h => h) (.inr ⟨by rfl, rfl⟩) hH ?_
        (try simp only [List.getElem_toArray, List.getElem_cons_zero, List.getElem_cons_succ, Act.put, List.setIfInBounds_toArray, List.set_cons_zero, List.set_cons_succ])
        refine wpAnyH_take (i := 14) (v := undef) rfl (by kernel_rfl) (by kernel_rfl) (by kernel_rfl) (fun _ _ _ h => h) (.inr ⟨by rfl, rfl⟩) hH ?_
        (try simp only [List.getElem_toArray, List.getElem_cons_zero, List.getElem_cons_succ, Act.put, List.setIfInBounds_toArray, List.set_cons_zero, List.set_cons_succ])
        refine wpAnyH_take (i := 15) (v := undef) rfl (by kernel_rfl) (by kernel_rfl) (by kernel_rfl) (fun _ _ _ h => h) (.inr ⟨by rfl, rfl⟩) hH ?_
        (try simp only [List.getElem_toArray, List.getElem_cons_zero, List.getElem_cons_succ, Act.put, List.setIfInBounds_toArray, List.set_cons_zero, List.set_cons_succ])
        refine wpAnyH_take (i := 16) (v := undef) rfl (by kernel_rfl) (by kernel_rfl) (by kernel_rfl) (fun _ _ _ h => h) (.inr ⟨by rfl, rfl⟩) hH ?_
        (try simp only [List.getElem_toArray, List.getElem_cons_zero, List.getElem_cons_succ, Act.put, List.setIfInBounds_toArray, List.set_cons_zero, List.set_cons_succ])
        refine wpAnyH_take (i := 17) (v := undef) rfl (by kernel_rfl) (by kernel_rfl) (by kernel_rfl) (fun _ _ _ h => h) (.inr ⟨by rfl, rfl⟩) hH ?_
        (try simp only [List.getElem_toArray, List.getElem_cons_zero, List.getElem_cons_succ, Act.put, List.setIfInBounds_toArray, List.set_cons_zero, List.set_cons_succ])
        refine wpAnyH_take (i := 18) (v := undef) rfl (by kernel_rfl) (by kernel_rfl) (by kernel_rfl) (fun _ _ _ h => h) (.inr ⟨by rfl, rfl⟩) hH ?_
        (try simp only [List.getElem_toArray, List.getElem_cons_zero, List.getElem_cons_succ, Act.put, List.setIfInBounds_toArray, List.set_cons_zero, List.set_cons_succ])
        refine wpAnyH_take (i := 19) (v := undef) rfl (by kernel_rfl) (by kernel_rfl) (by kernel_rfl) (fun _ _ _ h => h) (.inr ⟨by rfl, rfl⟩) hH ?_
        (try simp only [List.getElem_toArray, List.getElem_cons_zero, List.getElem_cons_succ, Act.put, List.setIfInBounds_toArray, List.set_cons_zero, List.set_cons_succ])
        refine wpAnyH_take (i := 20) (v := undef) rfl (by kernel_rfl) (by kernel_rfl) (by kernel_rfl) (fun _ _ _ h => h) (.inr ⟨by rfl, rfl⟩) hH ?_
        (try simp only [List.getElem_toArray, List.getElem_cons_zero, List.getElem_cons_succ, Act.put, List.setIfInBounds_toArray, List.set_cons_zero, List.set_cons_succ])
        refine wpAnyH_take (i := 21) (v := undef) rfl (by kernel_rfl) (by kernel_rfl) (by kernel_rfl) (fun _ _ _ h => h) (.inr ⟨by rfl, rfl⟩) hH ?_
        (try simp only [List.getElem_toArray, List.getElem_cons_zero, List.getElem_cons_succ, Act.put, List.setIfInBounds_toArray, List.set_cons_zero, List.set_cons_succ])
        refine wpAnyH_take (i := 22) (v := undef) rfl (by kernel_rfl) (by kernel_rfl) (by kernel_rfl) (fun _ _ _ h => h) (.inr ⟨by rfl, rfl⟩) hH ?_
        (try simp only [List.getElem_toArray, List.getElem_cons_zero, List.getElem_cons_succ, Act.put, List.setIfInBounds_toArray, List.set_cons_zero, List.set_cons_succ])
        refine wpAnyH_take (i := 23) (v := undef) rfl (by kernel_rfl) (by kernel_rfl) (by kernel_rfl) (fun _ _ _ h => h) (.inr ⟨by rfl, rfl⟩) hH ?_
        (try simp only [List.getElem_toArray, List.getElem_cons_zero, List.getElem_cons_succ, Act.put, List.setIfInBounds_toArray, List.set_cons_zero, List.set_cons_succ])
        refine wpAnyH_take (i := 24) (v := undef) rfl (by kernel_rfl) (by kernel_rfl) (by kernel_rfl) (fun _ _ _ h => h) (.inr ⟨by rfl, rfl⟩) hH ?_
        (try simp only [List.getElem_toArray, List.getElem_cons_zero, List.getElem_cons_succ, Act.put, List.setIfInBounds_toArray, List.set_cons_zero, List.set_cons_succ])
        refine wpAnyH_take (i := 25) (v := undef) rfl (by kernel_rfl) (by kernel_rfl) (by kernel_rfl) (fun _ _ _ h => h) (.inr ⟨by rfl, rfl⟩) hH ?_
        (try simp only [List.getElem_toArray, List.getElem_cons_zero, List.getElem_cons_succ, Act.put, List.setIfInBounds_toArray, List.set_cons_zero, List.set_cons_succ])
        refine wpAnyH_take (i := 26) (v := undef) rfl (by kernel_rfl) (by kernel_rfl) (by kernel_rfl) (fun _ _ _ h => h) (.inr ⟨by rfl, rfl⟩) hH ?_
        (try simp only [List.getElem_toArray, List.getElem_cons_zero, List.getElem_cons_succ, Act.put, List.setIfInBounds_toArray, List.set_cons_zero, List.set_cons_succ])
        refine wpAnyH_take (i := 27) (v := undef) rfl (by kernel_rfl) (by kernel_rfl) (by kernel_rfl) (fun _ _ _ h => h) (.inr ⟨by rfl, rfl⟩) hH ?_
        (try simp only [List.getElem_toArray, List.getElem_cons_zero, List.getElem_cons_succ, Act.put, List.setIfInBounds_toArray, List.set_cons_zero, List.set_cons_succ])
        refine wpAnyH_take (i := 28) (v := undef) rfl (by kernel_rfl) (by kernel_rfl) (by kernel_rfl) (fun _ _ _ h => h) (.inr ⟨by rfl, rfl⟩) hH ?_
        (try simp only [List.getElem_toArray, List.getElem_cons_zero, List.getElem_cons_succ, Act.put, List.setIfInBounds_toArray, List.set_cons_zero, List.set_cons_succ])
        refine wpAnyH_take (i := 29) (v := .bool false) rfl (by kernel_rfl) (by kernel_rfl) (by kernel_rfl) (fun _ _ _ h => h) (.inl ⟨by rfl, fun _ _ => by kernel_rfl⟩) hH ?_
        (try simp only [List.getElem_toArray, List.getElem_cons_zero, List.getElem_cons_succ, Act.put, List.setIfInBounds_toArray, List.set_cons_zero, List.set_cons_succ])
        refine wpAnyH_done (by kernel_rfl) ?_ _
        have HB3 : Hid (Below wr.heap.size wr wr.drew) := hH
        have HKW3 : Hid (Blk wr.drew hb T C) := HKW.out.below HB3.out HKW.out.lt
        have HS3 : Hid (HeldS wr.drew g c L) := HS.out.tch HB3.out HS.out.lt
        have HT3 : Hid (Tch (fun k => k = g) w wr.drew) := HT.out.trans (Tch.of_below (S := fun _ => False) HB3.out) (fun _ q => q.elim)
        go_upto_region 5 with fail
        cases td : ah (sg L k) (sg L i)
        · refine wp_region_held_drew (S := fun w' => Below wr.drew.heap.size wr.drew w') (by kernel_rfl) (below_drewN (Below.refl _ _) 1) (fun hH => ?_)
          refine wpAnyH_take (i := 0) (v := .pointer (some ⟨hb, 0, none⟩)) rfl (by kernel_rfl) (by kernel_rfl) (by kernel_rfl) (fun _ _ _ h => h) (.inl ⟨by rfl, fun _ _ => by kernel_rfl⟩) hH ?_
          (try simp only [List.getElem_toArray, List.getElem_cons_zero, Act.put, List.setIfInBounds_toArray, List.set_cons_zero, List.set_cons_succ])
          refine wpAnyH_take (i := 1) (v := .pointer (some ⟨hb, 0, none⟩)) rfl (by kernel_rfl) (by kernel_rfl) (by kernel_rfl) (fun _ _ _ h => h) (.inl ⟨by rfl, fun _ _ => by kernel_rfl⟩) hH ?_
          (try simp only [List.getElem_toArray, List.getElem_cons_zero, List.getElem_cons_succ, Act.put, List.setIfInBounds_toArray, List.set_cons_zero, List.set_cons_succ])
          refine wpAnyH_take (i := 2) (v := .pointer (some ⟨hb, 1, none⟩)) rfl (by kernel_rfl) (by kernel_rfl) (by kernel_rfl) (fun _ _ _ h => h) (.inl ⟨by rfl, fun _ _ => by kernel_rfl⟩) hH ?_
          (try simp only [List.getElem_toArray, List.getElem_cons_zero, List.getElem_cons_succ, Act.put, List.setIfInBounds_toArray, List.set_cons_zero, List.set_cons_succ])
          refine wpAnyH_take (i := 3) (v := fvA f) rfl (by kernel_rfl) (by kernel_rfl) (by kernel_rfl) (fun _ _ _ h => h) (yieldsIf_loadP (by rfl) _ rfl rfl (fun _ s => load_ahead (((HKW3.out.below s HKW3.out.lt).cell 1).trans HC1.out))) hH ?_
          (try simp only [List.getElem_toArray, List.getElem_cons_zero, List.getElem_cons_succ, Act.put, List.setIfInBounds_toArray, List.set_cons_zero, List.set_cons_succ])
          refine wpAnyH_take (i := 4) (v := .pointer (some ⟨hb, 0, none⟩)) rfl (by kernel_rfl) (by kernel_rfl) (by kernel_rfl) (fun _ _ _ h => h) (.inl ⟨by rfl, fun _ _ => by kernel_rfl⟩) hH ?_
          (try simp only [List.getElem_toArray, List.getElem_cons_zero, List.getElem_cons_succ, Act.put, List.setIfInBounds_toArray, List.set_cons_zero, List.set_cons_succ])
          refine wpAnyH_take (i := 5) (v := .pointer (some ⟨hb, 0, none⟩)) rfl (by kernel_rfl) (by kernel_rfl) (by kernel_rfl) (fun _ _ _ h => h) (.inl ⟨by rfl, fun _ _ => by kernel_rfl⟩) hH ?_
          (try simp only [List.getElem_toArray, List.getElem_cons_zero, List.getElem_cons_succ, Act.put, List.setIfInBounds_toArray, List.set_cons_zero, List.set_cons_succ])
          refine wpAnyH_take (i := 6) (v := .pointer (some ⟨hb, 0, none⟩)) rfl (by kernel_rfl) (by kernel_rfl) (by kernel_rfl) (fun _ _ _ h => h) (.inl ⟨by rfl, fun _ _ => by kernel_rfl⟩) hH ?_
          (try simp only [List.getElem_toArray, List.getElem_cons_zero, List.getElem_cons_succ, Act.put, List.setIfInBounds_toArray, List.set_cons_zero, List.set_cons_succ])
          refine wpAnyH_take (i := 7) (v := .slice (some ⟨g, 0, none⟩) n c) rfl (by kernel_rfl) (by kernel_rfl) (by kernel_rfl) (fun _ _ _ h => h) (yieldsIf_loadP (by rfl) _ rfl rfl (fun _ s => load_spots (((HKW3.out.below s HKW3.out.lt).cell 0).trans HC0.out))) hH ?_
          (try simp only [List.getElem_toArray, List.getElem_cons_zero, List.getElem_cons_succ, Act.put, List.setIfInBounds_toArray, List.set_cons_zero, List.set_cons_succ])
          refine wpAnyH_take (i := 8) (v := .int .i64 ((k : Nat) : Int)) rfl (by kernel_rfl) (by kernel_rfl) (by kernel_rfl) (fun _ _ _ h => h) (.inl ⟨by rfl, fun _ _ => by kernel_rfl⟩) hH ?_
          (try simp only [List.getElem_toArray, List.getElem_cons_zero, List.getElem_cons_succ, Act.put, List.setIfInBounds_toArray, List.set_cons_zero, List.set_cons_succ])
          refine wpAnyH_take (i := 9) (v := .pointer (some ⟨g, 0 + k * 3, none⟩)) rfl (by kernel_rfl) (by kernel_rfl) (by kernel_rfl) (fun _ _ _ h => h) (yieldsIf_indexS Try.underlying25 sizeSpE (by rfl) _ _ rfl rfl rfl HKN.out) hH ?_
          (try simp only [List.getElem_toArray, List.getElem_cons_zero, List.getElem_cons_succ, Act.put, List.setIfInBounds_toArray, List.set_cons_zero, List.set_cons_succ])
          refine wpAnyH_take (i := 10) (v := spV (sg L k)) rfl (by kernel_rfl) (by kernel_rfl) (by kernel_rfl) (fun _ _ _ h => h) (yieldsIf_loadP (by rfl) _ rfl rfl (fun _ s => (HS3.out.tch s HS3.out.lt).load HKL2.out)) hH ?_
          (try simp only [List.getElem_toArray, List.getElem_cons_zero, List.getElem_cons_succ, Act.put, List.setIfInBounds_toArray, List.set_cons_zero, List.set_cons_succ])
          refine wpAnyH_take (i := 11) (v := .pointer (some ⟨hb, 0, none⟩)) rfl (by kernel_rfl) (by kernel_rfl) (by kernel_rfl) (fun _ _ _ h => h) (.inl ⟨by rfl, fun _ _ => by kernel_rfl⟩) hH ?_
          (try simp only [List.getElem_toArray, List.getElem_cons_zero, List.getElem_cons_succ, Act.put, List.setIfInBounds_toArray, List.set_cons_zero, List.set_cons_succ])
          refine wpAnyH_take (i := 12) (v := .pointer (some ⟨hb, 0, none⟩)) rfl (by kernel_rfl) (by kernel_rfl) (by kernel_rfl) (fun _ _ _ h => h) (.inl ⟨by rfl, fun _ _ => by kernel_rfl⟩) hH ?_
          (try simp only [List.getElem_toArray, List.getElem_cons_zero, List.getElem_cons_succ, Act.put, List.setIfInBounds_toArray, List.set_cons_zero, List.set_cons_succ])
          refine wpAnyH_take (i := 13) (v := .pointer (some ⟨hb, 0, none⟩)) rfl (by kernel_rfl) (by kernel_rfl) (by kernel_rfl) (fun _ _ _ h => h) (.inl ⟨by rfl, fun _ _ => by kernel_rfl⟩) hH ?_
          (try simp only [List.getElem_toArray, List.getElem_cons_zero, List.getElem_cons_succ, Act.put, List.setIfInBounds_toArray, List.set_cons_zero, List.set_cons_succ])
          refine wpAnyH_take (i := 14) (v := .slice (some ⟨g, 0, none⟩) n c) rfl (by kernel_rfl) (by kernel_rfl) (by kernel_rfl) (fun _ _ _ h => h) (yieldsIf_loadP (by rfl) _ rfl rfl (fun _ s => load_spots (((HKW3.out.below s HKW3.out.lt).cell 0).trans HC0.out))) hH ?_
          (try simp only [List.getElem_toArray, List.getElem_cons_zero, List.getElem_cons_succ, Act.put, List.setIfInBounds_toArray, List.set_cons_zero, List.set_cons_succ])
          refine wpAnyH_take (i := 15) (v := .int .i64 ((i : Nat) : Int)) rfl (by kernel_rfl) (by kernel_rfl) (by kernel_rfl) (fun _ _ _ h => h) (.inl ⟨by rfl, fun _ _ => by kernel_rfl⟩) hH ?_
          (try simp only [List.getElem_toArray, List.getElem_cons_zero, List.getElem_cons_succ, Act.put, List.setIfInBounds_toArray, List.set_cons_zero, List.set_cons_succ])
          refine wpAnyH_take (i := 16) (v := .pointer (some ⟨g, 0 + i * 3, none⟩)) rfl (by kernel_rfl) (by kernel_rfl) (by kernel_rfl) (fun _ _ _ h => h) (yieldsIf_indexS Try.underlying25 sizeSpE (by rfl) _ _ rfl rfl rfl HIN.out) hH ?_
          (try simp only [List.getElem_toArray, List.getElem_cons_zero, List.getElem_cons_succ, Act.put, List.setIfInBounds_toArray, List.set_cons_zero, List.set_cons_succ])
          refine wpAnyH_take (i := 17) (v := spV (sg L i)) rfl (by kernel_rfl) (by kernel_rfl) (by kernel_rfl) (fun _ _ _ h => h) (yieldsIf_loadP (by rfl) _ rfl rfl (fun _ s => (HS3.out.tch s HS3.out.lt).load HIL2.out)) hH ?_
          (try simp only [List.getElem_toArray, List.getElem_cons_zero, List.getElem_cons_succ, Act.put, List.setIfInBounds_toArray, List.set_cons_zero, List.set_cons_succ])
          refine wpAnyH_call 18 f #[spV (sg L k), spV (sg L i)] _ (by kernel_rfl) (by rfl) (by kernel_rfl) (run_callv HHF.out.1 (by rfl) (by rfl) (by rfl) (by rfl) _) (HHF.out.2 _ _ _) ?_
          rintro e Z2 ⟨rfl, g2⟩
          rw [td]
          have h2 := hH.trans (g2.below.mono hH.size)
          refine ⟨_, rfl, h2, ?_⟩
          (try simp only [List.getElem_toArray, List.getElem_cons_zero, List.getElem_cons_succ, Act.put, List.setIfInBounds_toArray, List.set_cons_zero, List.set_cons_succ])
          refine wpAnyH_take (i := 19) (v := .bool true) rfl (by kernel_rfl) (by kernel_rfl) (by kernel_rfl) (fun _ _ _ h => h) (.inl ⟨by rfl, fun _ _ => by kernel_rfl⟩) h2 ?_
          (try simp only [List.getElem_toArray, List.getElem_cons_zero, List.getElem_cons_succ, Act.put, List.setIfInBounds_toArray, List.set_cons_zero, List.set_cons_succ])
          refine wpAnyH_done (by kernel_rfl) ?_ _
          go_wp2_with fail
          (try simp only [Exit.inBlock, Exit.then])
          refine bodyPost_ret (results_none rfl _ _ _) rfl ?_
          exact ⟨rfl, L, HU.out.pm, HU.out.stop HOO.out (k := k) (.inr ⟨HCH.out, td⟩), HS3.out.tch h2 HS3.out.lt, HT3.out.trans (Tch.of_below (S := fun _ => False) h2) (fun k q => q.elim)⟩
        · refine wp_region_held_drew (S := fun w' => Below wr.drew.heap.size wr.drew w') (by kernel_rfl) (below_drewN (Below.refl _ _) 1) (fun hH => ?_)
          refine wpAnyH_take (i := 0) (v := .pointer (some ⟨hb, 0, none⟩)) rfl (by kernel_rfl) (by kernel_rfl) (by kernel_rfl) (fun _ _ _ h => h) (.inl ⟨by rfl, fun _ _ => by kernel_rfl⟩) hH ?_
          (try simp only [List.getElem_toArray, List.getElem_cons_zero, Act.put, List.setIfInBounds_toArray, List.set_cons_zero, List.set_cons_succ])
          refine wpAnyH_take (i := 1) (v := .pointer (some ⟨hb, 0, none⟩)) rfl (by kernel_rfl) (by kernel_rfl) (by kernel_rfl) (fun _ _ _ h => h) (.inl ⟨by rfl, fun _ _ => by kernel_rfl⟩) hH ?_
          (try simp only [List.getElem_toArray, List.getElem_cons_zero, List.getElem_cons_succ, Act.put, List.setIfInBounds_toArray, List.set_cons_zero, List.set_cons_succ])
          refine wpAnyH_take (i := 2) (v := .pointer (some ⟨hb, 1, none⟩)) rfl (by kernel_rfl) (by kernel_rfl) (by kernel_rfl) (fun _ _ _ h => h) (.inl ⟨by rfl, fun _ _ => by kernel_rfl⟩) hH ?_
          (try simp only [List.getElem_toArray, List.getElem_cons_zero, List.getElem_cons_succ, Act.put, List.setIfInBounds_toArray, List.set_cons_zero, List.set_cons_succ])
          refine wpAnyH_take (i := 3) (v := fvA f) rfl (by kernel_rfl) (by kernel_rfl) (by kernel_rfl) (fun _ _ _ h => h) (yieldsIf_loadP (by rfl) _ rfl rfl (fun _ s => load_ahead (((HKW3.out.below s HKW3.out.lt).cell 1).trans HC1.out))) hH ?_
          (try simp only [List.getElem_toArray, List.getElem_cons_zero, List.getElem_cons_succ, Act.put, List.setIfInBounds_toArray, List.set_cons_zero, List.set_cons_succ])
          refine wpAnyH_take (i := 4) (v := .pointer (some ⟨hb, 0, none⟩)) rfl (by kernel_rfl) (by kernel_rfl) (by kernel_rfl) (fun _ _ _ h => h) (.inl ⟨by rfl, fun _ _ => by kernel_rfl⟩) hH ?_
          (try simp only [List.getElem_toArray, List.getElem_cons_zero, List.getElem_cons_succ, Act.put, List.setIfInBounds_toArray, List.set_cons_zero, List.set_cons_succ])
          refine wpAnyH_take (i := 5) (v := .pointer (some ⟨hb, 0, none⟩)) rfl (by kernel_rfl) (by kernel_rfl) (by kernel_rfl) (fun _ _ _ h => h) (.inl ⟨by rfl, fun _ _ => by kernel_rfl⟩) hH ?_
          (try simp only [List.getElem_toArray, List.getElem_cons_zero, List.getElem_cons_succ, Act.put, List.setIfInBounds_toArray, List.set_cons_zero, List.set_cons_succ])
          refine wpAnyH_take (i := 6) (v := .pointer (some ⟨hb, 0, none⟩)) rfl (by kernel_rfl) (by kernel_rfl) (by kernel_rfl) (fun _ _ _ h => h) (.inl ⟨by rfl, fun _ _ => by kernel_rfl⟩) hH ?_
          (try simp only [List.getElem_toArray, List.getElem_cons_zero, List.getElem_cons_succ, Act.put, List.setIfInBounds_toArray, List.set_cons_zero, List.set_cons_succ])
          refine wpAnyH_take (i := 7) (v := .slice (some ⟨g, 0, none⟩) n c) rfl (by kernel_rfl) (by kernel_rfl) (by kernel_rfl) (fun _ _ _ h => h) (yieldsIf_loadP (by rfl) _ rfl rfl (fun _ s => load_spots (((HKW3.out.below s HKW3.out.lt).cell 0).trans HC0.out))) hH ?_
          (try simp only [List.getElem_toArray, List.getElem_cons_zero, List.getElem_cons_succ, Act.put, List.setIfInBounds_toArray, List.set_cons_zero, List.set_cons_succ])
          refine wpAnyH_take (i := 8) (v := .int .i64 ((k : Nat) : Int)) rfl (by kernel_rfl) (by kernel_rfl) (by kernel_rfl) (fun _ _ _ h => h) (.inl ⟨by rfl, fun _ _ => by kernel_rfl⟩) hH ?_
          (try simp only [List.getElem_toArray, List.getElem_cons_zero, List.getElem_cons_succ, Act.put, List.setIfInBounds_toArray, List.set_cons_zero, List.set_cons_succ])
          refine wpAnyH_take (i := 9) (v := .pointer (some ⟨g, 0 + k * 3, none⟩)) rfl (by kernel_rfl) (by kernel_rfl) (by kernel_rfl) (fun _ _ _ h => h) (yieldsIf_indexS Try.underlying25 sizeSpE (by rfl) _ _ rfl rfl rfl HKN.out) hH ?_
          (try simp only [List.getElem_toArray, List.getElem_cons_zero, List.getElem_cons_succ, Act.put, List.setIfInBounds_toArray, List.set_cons_zero, List.set_cons_succ])
          refine wpAnyH_take (i := 10) (v := spV (sg L k)) rfl (by kernel_rfl) (by kernel_rfl) (by kernel_rfl) (fun _ _ _ h => h) (yieldsIf_loadP (by rfl) _ rfl rfl (fun _ s => (HS3.out.tch s HS3.out.lt).load HKL2.out)) hH ?_
          (try simp only [List.getElem_toArray, List.getElem_cons_zero, List.getElem_cons_succ, Act.put, List.setIfInBounds_toArray, List.set_cons_zero, List.set_cons_succ])
          refine wpAnyH_take (i := 11) (v := .pointer (some ⟨hb, 0, none⟩)) rfl (by kernel_rfl) (by kernel_rfl) (by kernel_rfl) (fun _ _ _ h => h) (.inl ⟨by rfl, fun _ _ => by kernel_rfl⟩) hH ?_
          (try simp only [List.getElem_toArray, List.getElem_cons_zero, List.getElem_cons_succ, Act.put, List.setIfInBounds_toArray, List.set_cons_zero, List.set_cons_succ])
          refine wpAnyH_take (i := 12) (v := .pointer (some ⟨hb, 0, none⟩)) rfl (by kernel_rfl) (by kernel_rfl) (by kernel_rfl) (fun _ _ _ h => h) (.inl ⟨by rfl, fun _ _ => by kernel_rfl⟩) hH ?_
          (try simp only [List.getElem_toArray, List.getElem_cons_zero, List.getElem_cons_succ, Act.put, List.setIfInBounds_toArray, List.set_cons_zero, List.set_cons_succ])
          refine wpAnyH_take (i := 13) (v := .pointer (some ⟨hb, 0, none⟩)) rfl (by kernel_rfl) (by kernel_rfl) (by kernel_rfl) (fun _ _ _ h => h) (.inl ⟨by rfl, fun _ _ => by kernel_rfl⟩) hH ?_
          (try simp only [List.getElem_toArray, List.getElem_cons_zero, List.getElem_cons_succ, Act.put, List.setIfInBounds_toArray, List.set_cons_zero, List.set_cons_succ])
          refine wpAnyH_take (i := 14) (v := .slice (some ⟨g, 0, none⟩) n c) rfl (by kernel_rfl) (by kernel_rfl) (by kernel_rfl) (fun _ _ _ h => h) (yieldsIf_loadP (by rfl) _ rfl rfl (fun _ s => load_spots (((HKW3.out.below s HKW3.out.lt).cell 0).trans HC0.out))) hH ?_
          (try simp only [List.getElem_toArray, List.getElem_cons_zero, List.getElem_cons_succ, Act.put, List.setIfInBounds_toArray, List.set_cons_zero, List.set_cons_succ])
          refine wpAnyH_take (i := 15) (v := .int .i64 ((i : Nat) : Int)) rfl (by kernel_rfl) (by kernel_rfl) (by kernel_rfl) (fun _ _ _ h => h) (.inl ⟨by rfl, fun _ _ => by kernel_rfl⟩) hH ?_
          (try simp only [List.getElem_toArray, List.getElem_cons_zero, List.getElem_cons_succ, Act.put, List.setIfInBounds_toArray, List.set_cons_zero, List.set_cons_succ])
          refine wpAnyH_take (i := 16) (v := .pointer (some ⟨g, 0 + i * 3, none⟩)) rfl (by kernel_rfl) (by kernel_rfl) (by kernel_rfl) (fun _ _ _ h => h) (yieldsIf_indexS Try.underlying25 sizeSpE (by rfl) _ _ rfl rfl rfl HIN.out) hH ?_
          (try simp only [List.getElem_toArray, List.getElem_cons_zero, List.getElem_cons_succ, Act.put, List.setIfInBounds_toArray, List.set_cons_zero, List.set_cons_succ])
          refine wpAnyH_take (i := 17) (v := spV (sg L i)) rfl (by kernel_rfl) (by kernel_rfl) (by kernel_rfl) (fun _ _ _ h => h) (yieldsIf_loadP (by rfl) _ rfl rfl (fun _ s => (HS3.out.tch s HS3.out.lt).load HIL2.out)) hH ?_
          (try simp only [List.getElem_toArray, List.getElem_cons_zero, List.getElem_cons_succ, Act.put, List.setIfInBounds_toArray, List.set_cons_zero, List.set_cons_succ])
          refine wpAnyH_call 18 f #[spV (sg L k), spV (sg L i)] _ (by kernel_rfl) (by rfl) (by kernel_rfl) (run_callv HHF.out.1 (by rfl) (by rfl) (by rfl) (by rfl) _) (HHF.out.2 _ _ _) ?_
          rintro e Z2 ⟨rfl, g2⟩
          rw [td]
          have h2 := hH.trans (g2.below.mono hH.size)
          refine ⟨_, rfl, h2, ?_⟩
          (try simp only [List.getElem_toArray, List.getElem_cons_zero, List.getElem_cons_succ, Act.put, List.setIfInBounds_toArray, List.set_cons_zero, List.set_cons_succ])
          refine wpAnyH_take (i := 19) (v := .bool false) rfl (by kernel_rfl) (by kernel_rfl) (by kernel_rfl) (fun _ _ _ h => h) (.inl ⟨by rfl, fun _ _ => by kernel_rfl⟩) h2 ?_
          (try simp only [List.getElem_toArray, List.getElem_cons_zero, List.getElem_cons_succ, Act.put, List.setIfInBounds_toArray, List.set_cons_zero, List.set_cons_succ])
          refine wpAnyH_done (by kernel_rfl) ?_ _
          have HKW2 : Hid (Blk Z2 hb T C) := HKW3.out.below h2 HKW3.out.lt
          have HSW : Hid (HeldS Z2.drew g c L) := HS3.out.tch (w' := Z2.drew) (below_drewN h2 1) HS3.out.lt
          have HTW : Hid (Tch (fun k => k = g) w Z2) := HT3.out.trans (Tch.of_below (S := fun _ => False) h2) (fun k q => q.elim)
          clear h2 g2
          go_upto_region 6 with fail
          refine wp_region_held_drew (S := fun w' => Tch (fun k => k = g) Z2 w') (by kernel_rfl) ((Tch.refl _ Z2).drewN 1) (fun hH2 => ?_)
          refine wpAnyH_take (i := 0) (v := .pointer (some ⟨hb, 0, none⟩)) rfl (by kernel_rfl) (by kernel_rfl) (by kernel_rfl) (fun _ _ _ h => h) (.inl ⟨by rfl, fun _ _ => by kernel_rfl⟩) hH2 ?_
          (try simp only [List.getElem_toArray, List.getElem_cons_zero, Act.put, List.setIfInBounds_toArray, List.set_cons_zero, List.set_cons_succ])
          refine wpAnyH_take (i := 1) (v := .pointer (some ⟨hb, 0, none⟩)) rfl (by kernel_rfl) (by kernel_rfl) (by kernel_rfl) (fun _ _ _ h => h) (.inl ⟨by rfl, fun _ _ => by kernel_rfl⟩) hH2 ?_
          (try simp only [List.getElem_toArray, List.getElem_cons_zero, List.getElem_cons_succ, Act.put, List.setIfInBounds_toArray, List.set_cons_zero, List.set_cons_succ])
          refine wpAnyH_take (i := 2) (v := .pointer (some ⟨hb, 0, none⟩)) rfl (by kernel_rfl) (by kernel_rfl) (by kernel_rfl) (fun _ _ _ h => h) (.inl ⟨by rfl, fun _ _ => by kernel_rfl⟩) hH2 ?_
          (try simp only [List.getElem_toArray, List.getElem_cons_zero, List.getElem_cons_succ, Act.put, List.setIfInBounds_toArray, List.set_cons_zero, List.set_cons_succ])
          refine wpAnyH_take (i := 3) (v := .slice (some ⟨g, 0, none⟩) n c) rfl (by kernel_rfl) (by kernel_rfl) (by kernel_rfl) (fun _ _ _ h => h) (yieldsIf_loadP (by rfl) _ rfl rfl (fun _ s => load_spots (((HKW2.out.tch s HNE.out).cell 0).trans HC0.out))) hH2 ?_
          (try simp only [List.getElem_toArray, List.getElem_cons_zero, List.getElem_cons_succ, Act.put, List.setIfInBounds_toArray, List.set_cons_zero, List.set_cons_succ])
          refine wpAnyH_take (i := 4) (v := .int .i64 ((i : Nat) : Int)) rfl (by kernel_rfl) (by kernel_rfl) (by kernel_rfl) (fun _ _ _ h => h) (.inl ⟨by rfl, fun _ _ => by kernel_rfl⟩) hH2 ?_
          (try simp only [List.getElem_toArray, List.getElem_cons_zero, List.getElem_cons_succ, Act.put, List.setIfInBounds_toArray, List.set_cons_zero, List.set_cons_succ])
          refine wpAnyH_take (i := 5) (v := .pointer (some ⟨hb, 0, none⟩)) rfl (by kernel_rfl) (by kernel_rfl) (by kernel_rfl) (fun _ _ _ h => h) (.inl ⟨by rfl, fun _ _ => by kernel_rfl⟩) hH2 ?_
          (try simp only [List.getElem_toArray, List.getElem_cons_zero, List.getElem_cons_succ, Act.put, List.setIfInBounds_toArray, List.set_cons_zero, List.set_cons_succ])
          refine wpAnyH_take (i := 6) (v := .pointer (some ⟨hb, 0, none⟩)) rfl (by kernel_rfl) (by kernel_rfl) (by kernel_rfl) (fun _ _ _ h => h) (.inl ⟨by rfl, fun _ _ => by kernel_rfl⟩) hH2 ?_
          (try simp only [List.getElem_toArray, List.getElem_cons_zero, List.getElem_cons_succ, Act.put, List.setIfInBounds_toArray, List.set_cons_zero, List.set_cons_succ])
          refine wpAnyH_take (i := 7) (v := .pointer (some ⟨hb, 0, none⟩)) rfl (by kernel_rfl) (by kernel_rfl) (by kernel_rfl) (fun _ _ _ h => h) (.inl ⟨by rfl, fun _ _ => by kernel_rfl⟩) hH2 ?_
          (try simp only [List.getElem_toArray, List.getElem_cons_zero, List.getElem_cons_succ, Act.put, List.setIfInBounds_toArray, List.set_cons_zero, List.set_cons_succ])
          refine wpAnyH_take (i := 8) (v := .slice (some ⟨g, 0, none⟩) n c) rfl (by kernel_rfl) (by kernel_rfl) (by kernel_rfl) (fun _ _ _ h => h) (yieldsIf_loadP (by rfl) _ rfl rfl (fun _ s => load_spots (((HKW2.out.tch s HNE.out).cell 0).trans HC0.out))) hH2 ?_
          (try simp only [List.getElem_toArray, List.getElem_cons_zero, List.getElem_cons_succ, Act.put, List.setIfInBounds_toArray, List.set_cons_zero, List.set_cons_succ])
          refine wpAnyH_take (i := 9) (v := .int .i64 ((k : Nat) : Int)) rfl (by kernel_rfl) (by kernel_rfl) (by kernel_rfl) (fun _ _ _ h => h) (.inl ⟨by rfl, fun _ _ => by kernel_rfl⟩) hH2 ?_
          (try simp only [List.getElem_toArray, List.getElem_cons_zero, List.getElem_cons_succ, Act.put, List.setIfInBounds_toArray, List.set_cons_zero, List.set_cons_succ])
          refine wpAnyH_take (i := 10) (v := .pointer (some ⟨hb, 0, none⟩)) rfl (by kernel_rfl) (by kernel_rfl) (by kernel_rfl) (fun _ _ _ h => h) (.inl ⟨by rfl, fun _ _ => by kernel_rfl⟩) hH2 ?_
          (try simp only [List.getElem_toArray, List.getElem_cons_zero, List.getElem_cons_succ, Act.put, List.setIfInBounds_toArray, List.set_cons_zero, List.set_cons_succ])
          refine wpAnyH_take (i := 11) (v := .pointer (some ⟨hb, 0, none⟩)) rfl (by kernel_rfl) (by kernel_rfl) (by kernel_rfl) (fun _ _ _ h => h) (.inl ⟨by rfl, fun _ _ => by kernel_rfl⟩) hH2 ?_
          (try simp only [List.getElem_toArray, List.getElem_cons_zero, List.getElem_cons_succ, Act.put, List.setIfInBounds_toArray, List.set_cons_zero, List.set_cons_succ])
          refine wpAnyH_take (i := 12) (v := .pointer (some ⟨hb, 0, none⟩)) rfl (by kernel_rfl) (by kernel_rfl) (by kernel_rfl) (fun _ _ _ h => h) (.inl ⟨by rfl, fun _ _ => by kernel_rfl⟩) hH2 ?_
          (try simp only [List.getElem_toArray, List.getElem_cons_zero, List.getElem_cons_succ, Act.put, List.setIfInBounds_toArray, List.set_cons_zero, List.set_cons_succ])
          refine wpAnyH_take (i := 13) (v := .slice (some ⟨g, 0, none⟩) n c) rfl (by kernel_rfl) (by kernel_rfl) (by kernel_rfl) (fun _ _ _ h => h) (yieldsIf_loadP (by rfl) _ rfl rfl (fun _ s => load_spots (((HKW2.out.tch s HNE.out).cell 0).trans HC0.out))) hH2 ?_
          (try simp only [List.getElem_toArray, List.getElem_cons_zero, List.getElem_cons_succ, Act.put, List.setIfInBounds_toArray, List.set_cons_zero, List.set_cons_succ])
          refine wpAnyH_take (i := 14) (v := .int .i64 ((k : Nat) : Int)) rfl (by kernel_rfl) (by kernel_rfl) (by kernel_rfl) (fun _ _ _ h => h) (.inl ⟨by rfl, fun _ _ => by kernel_rfl⟩) hH2 ?_
          (try simp only [List.getElem_toArray, List.getElem_cons_zero, List.getElem_cons_succ, Act.put, List.setIfInBounds_toArray, List.set_cons_zero, List.set_cons_succ])
          refine wpAnyH_take (i := 15) (v := .pointer (some ⟨g, 0 + k * 3, none⟩)) rfl (by kernel_rfl) (by kernel_rfl) (by kernel_rfl) (fun _ _ _ h => h) (yieldsIf_indexS Try.underlying25 sizeSpE (by rfl) _ _ rfl rfl rfl HKN.out) hH2 ?_
          (try simp only [List.getElem_toArray, List.getElem_cons_zero, List.getElem_cons_succ, Act.put, List.setIfInBounds_toArray, List.set_cons_zero, List.set_cons_succ])
          refine wpAnyH_take (i := 17) (v := .pointer (some ⟨hb, 0, none⟩)) rfl (by kernel_rfl) (by kernel_rfl) (by kernel_rfl) (fun _ _ _ h => h) (.inl ⟨by rfl, fun _ _ => by kernel_rfl⟩) hH2 ?_
          (try simp only [List.getElem_toArray, List.getElem_cons_zero, List.getElem_cons_succ, Act.put, List.setIfInBounds_toArray, List.set_cons_zero, List.set_cons_succ])
          refine wpAnyH_take (i := 18) (v := .pointer (some ⟨hb, 0, none⟩)) rfl (by kernel_rfl) (by kernel_rfl) (by kernel_rfl) (fun _ _ _ h => h) (.inl ⟨by rfl, fun _ _ => by kernel_rfl⟩) hH2 ?_
          (try simp only [List.getElem_toArray, List.getElem_cons_zero, List.getElem_cons_succ, Act.put, List.setIfInBounds_toArray, List.set_cons_zero, List.set_cons_succ])
          refine wpAnyH_take (i := 19) (v := .pointer (some ⟨hb, 0, none⟩)) rfl (by kernel_rfl) (by kernel_rfl) (by kernel_rfl) (fun _ _ _ h => h) (.inl ⟨by rfl, fun _ _ => by kernel_rfl⟩) hH2 ?_
          (try simp only [List.getElem_toArray, List.getElem_cons_zero, List.getElem_cons_succ, Act.put, List.setIfInBounds_toArray, List.set_cons_zero, List.set_cons_succ])
          refine wpAnyH_take (i := 20) (v := .slice (some ⟨g, 0, none⟩) n c) rfl (by kernel_rfl) (by kernel_rfl) (by kernel_rfl) (fun _ _ _ h => h) (yieldsIf_loadP (by rfl) _ rfl rfl (fun _ s => load_spots (((HKW2.out.tch s HNE.out).cell 0).trans HC0.out))) hH2 ?_
          (try simp only [List.getElem_toArray, List.getElem_cons_zero, List.getElem_cons_succ, Act.put, List.setIfInBounds_toArray, List.set_cons_zero, List.set_cons_succ])
          refine wpAnyH_take (i := 21) (v := .int .i64 ((i : Nat) : Int)) rfl (by kernel_rfl) (by kernel_rfl) (by kernel_rfl) (fun _ _ _ h => h) (.inl ⟨by rfl, fun _ _ => by kernel_rfl⟩) hH2 ?_
          (try simp only [List.getElem_toArray, List.getElem_cons_zero, List.getElem_cons_succ, Act.put, List.setIfInBounds_toArray, List.set_cons_zero, List.set_cons_succ])
          refine wpAnyH_take (i := 22) (v := .pointer (some ⟨g, 0 + i * 3, none⟩)) rfl (by kernel_rfl) (by kernel_rfl) (by kernel_rfl) (fun _ _ _ h => h) (yieldsIf_indexS Try.underlying25 sizeSpE (by rfl) _ _ rfl rfl rfl HIN.out) hH2 ?_
          (try simp only [List.getElem_toArray, List.getElem_cons_zero, List.getElem_cons_succ, Act.put, List.setIfInBounds_toArray, List.set_cons_zero, List.set_cons_succ])
          refine wpAnyH_all (rs := [16, 23]) (by kernel_rfl) (by simp) (fun i9 hi9 => ?_)
          rcases (by simpa using hi9 : i9 = 16 ∨ i9 = 23) with rfl | rfl
          · refine wpOp_value (spV (sg L k)) (by rfl) (by kernel_rfl) (exec_loadK (by rfl) (by rfl) (HSW.out.load HKL2.out)) ⟨hH2, ?_⟩
            (try simp only [List.getElem_toArray, List.getElem_cons_zero, List.getElem_cons_succ, Act.put, List.setIfInBounds_toArray, List.set_cons_zero, List.set_cons_succ])
            refine wpAnyH_value 23 (spV (sg L i)) (by kernel_rfl) (by rfl) (by kernel_rfl) (exec_loadK (by rfl) (by rfl) (HSW.out.load HIL2.out)) hH2 ?_
            (try simp only [List.getElem_toArray, List.getElem_cons_zero, List.getElem_cons_succ, Act.put, List.setIfInBounds_toArray, List.set_cons_zero, List.set_cons_succ])
            refine wpAnyH_take (i := 24) (v := .pointer (some ⟨g, 0 + i * 3, none⟩)) rfl (by kernel_rfl) (by kernel_rfl) (by kernel_rfl) (fun _ _ _ h => h) (yieldsIf_indexS Try.underlying25 sizeSpE (by rfl) _ _ rfl rfl rfl HIN.out) hH2 ?_
            (try simp only [List.getElem_toArray, List.getElem_cons_zero, List.getElem_cons_succ, Act.put, List.setIfInBounds_toArray, List.set_cons_zero, List.set_cons_succ])
            have hH3 : Tch (fun k => k = g) Z2 (Z2.drew.setCells g (i * 3) (spC (sg L k)).toList) := Tch.setCells (S := fun k => k = g) rfl _ _ _ hH2
            refine wpAnyH_store 25 _ _ _ (by kernel_rfl) (by rfl) (by kernel_rfl) (by rfl) (by rfl) (by rfl) (HSW.out.store (sg L k) HIC.out) hH3 ?_
            (try simp only [List.getElem_toArray, List.getElem_cons_zero, List.getElem_cons_succ, Act.put])
            refine wpAnyH_take (i := 26) (v := .pointer (some ⟨g, 0 + k * 3, none⟩)) rfl (by kernel_rfl) (by kernel_rfl) (by kernel_rfl) (fun _ _ _ h => h) (yieldsIf_indexS Try.underlying25 sizeSpE (by rfl) _ _ rfl rfl rfl HKN.out) hH3 ?_
            (try simp only [List.getElem_toArray, List.getElem_cons_zero, List.getElem_cons_succ, Act.put, List.setIfInBounds_toArray, List.set_cons_zero, List.set_cons_succ])
            refine wpAnyH_store 27 _ _ _ (by kernel_rfl) (by rfl) (by kernel_rfl) (by rfl) (by rfl) (by rfl) ((HSW.out.set (sg L k) HIC.out).store (sg L i) HKC.out) (Tch.setCells (S := fun k => k = g) rfl _ _ _ hH3) ?_
            (try simp only [List.getElem_toArray, List.getElem_cons_zero, List.getElem_cons_succ, Act.put])
            refine wpAnyH_done (by kernel_rfl) ?_ _
            have HSV := Lib.hid ((HSW.out.set (sg L k) HIC.out).set (sg L i) HKC.out)
            have HTV : Hid (Tch (fun k => k = g) Z2 _) := Tch.setCells (S := fun k => k = g) rfl ((spC (sg L i)).toList) (k * 3) _ hH3
            go_wp2_with fail
            go_roundw
            case rel => exact ⟨k, swp L i k, Nat.le_of_lt HKN.out, rfl, HU.out.step HOO.out HKK.out.1 HKL2.out HKK.out.2 HCH.out td, HSV.out, HTW.out.trans HTV.out (fun k q => .inl q)⟩
            case measure => have h1 := HKK.out; have h2 := HKN.out; simp [intOf]; omega
          · refine wpOp_value (spV (sg L i)) (by rfl) (by kernel_rfl) (exec_loadK (by rfl) (by rfl) (HSW.out.load HIL2.out)) ⟨hH2, ?_⟩
            (try simp only [List.getElem_toArray, List.getElem_cons_zero, List.getElem_cons_succ, Act.put, List.setIfInBounds_toArray, List.set_cons_zero, List.set_cons_succ])
            refine wpAnyH_value 16 (spV (sg L k)) (by kernel_rfl) (by rfl) (by kernel_rfl) (exec_loadK (by rfl) (by rfl) (HSW.out.load HKL2.out)) hH2 ?_
            (try simp only [List.getElem_toArray, List.getElem_cons_zero, List.getElem_cons_succ, Act.put, List.setIfInBounds_toArray, List.set_cons_zero, List.set_cons_succ])
            refine wpAnyH_take (i := 24) (v := .pointer (some ⟨g, 0 + i * 3, none⟩)) rfl (by kernel_rfl) (by kernel_rfl) (by kernel_rfl) (fun _ _ _ h => h) (yieldsIf_indexS Try.underlying25 sizeSpE (by rfl) _ _ rfl rfl rfl HIN.out) hH2 ?_
            (try simp only [List.getElem_toArray, List.getElem_cons_zero, List.getElem_cons_succ, Act.put, List.setIfInBounds_toArray, List.set_cons_zero, List.set_cons_succ])
            have hH3 : Tch (fun k => k = g) Z2 (Z2.drew.setCells g (i * 3) (spC (sg L k)).toList) := Tch.setCells (S := fun k => k = g) rfl _ _ _ hH2
            refine wpAnyH_store 25 _ _ _ (by kernel_rfl) (by rfl) (by kernel_rfl) (by rfl) (by rfl) (by rfl) (HSW.out.store (sg L k) HIC.out) hH3 ?_
            (try simp only [List.getElem_toArray, List.getElem_cons_zero, List.getElem_cons_succ, Act.put])
            refine wpAnyH_take (i := 26) (v := .pointer (some ⟨g, 0 + k * 3, none⟩)) rfl (by kernel_rfl) (by kernel_rfl) (by kernel_rfl) (fun _ _ _ h => h) (yieldsIf_indexS Try.underlying25 sizeSpE (by rfl) _ _ rfl rfl rfl HKN.out) hH3 ?_
            (try simp only [List.getElem_toArray, List.getElem_cons_zero, List.getElem_cons_succ, Act.put, List.setIfInBounds_toArray, List.set_cons_zero, List.set_cons_succ])
            refine wpAnyH_store 27 _ _ _ (by kernel_rfl) (by rfl) (by kernel_rfl) (by rfl) (by rfl) (by rfl) ((HSW.out.set (sg L k) HIC.out).store (sg L i) HKC.out) (Tch.setCells (S := fun k => k = g) rfl _ _ _ hH3) ?_
            (try simp only [List.getElem_toArray, List.getElem_cons_zero, List.getElem_cons_succ, Act.put])
            refine wpAnyH_done (by kernel_rfl) ?_ _
            have HSV := Lib.hid ((HSW.out.set (sg L k) HIC.out).set (sg L i) HKC.out)
            have HTV : Hid (Tch (fun k => k = g) Z2 _) := Tch.setCells (S := fun k => k = g) rfl ((spC (sg L i)).toList) (k * 3) _ hH3
            go_wp2_with fail
            go_roundw
            case rel => exact ⟨k, swp L i k, Nat.le_of_lt HKN.out, rfl, HU.out.step HOO.out HKK.out.1 HKL2.out HKK.out.2 HCH.out td, HSV.out, HTW.out.trans HTV.out (fun k q => .inl q)⟩
            case measure => have h1 := HKK.out; have h2 := HKN.out; simp [intOf]; omega
    · have tk : decide (n ≤ k) = true := decide_eq_true (by omega)
      clear hil hin
      go_wp2_with fail
      (try simp only [Exit.inBlock, Exit.then])
      refine bodyPost_ret (results_none rfl _ _ _) rfl ?_
      exact ⟨rfl, L, HU.out.pm, HU.out.stop HOO.out (k := 0) (.inl (by rw [HIL.out]; omega)), HS.out, HT.out⟩
/-- A heap: where it lies, its order, what lies behind it, its row, its spots. -/
structure HR where
  hb : Nat
  T : Nat
  f : FuncId
  rest : List Value
  A : Option Addr
  c : Nat
  L : List Sp
def HR.C (h : HR) : Array Value := (.slice h.A h.L.length h.c :: fvA h.f :: h.rest).toArray
def foot (h : HR) (k : Nat) : Prop := k = h.hb ∨ h.A = some ⟨k, 0, none⟩
structure HpAt (w : World) (h : HR) : Prop where
  blk : Blk w h.hb h.T h.C
  own : w.ownsRow 0 35 3 (.slice h.A h.L.length h.c) h.L.length (flatS h.L)
  ne : h.A ≠ some ⟨h.hb, 0, none⟩
theorem held_of_own {w : World} {B g n c : Nat} {L : List Sp} (h : w.ownsRow B 35 3 (.slice (some ⟨g, 0, none⟩) n c) n (flatS L)) : HeldS w g c L ∧ n ≤ c ∧ c ≤ maxLen := by
  rcases h.2 with ⟨q, _⟩ | ⟨g', cap, cur, q, _, hh, h1, h2, h3, h4⟩
  · cases q
  · injection q with q1 q2 q3
    injection q1 with q1; injection q1 with q1 _ _
    subst q1 q3
    refine ⟨⟨cur, hh, h3, fun i x hi j u hu => ?_⟩, h1, h2⟩
    have hj : j < 3 := (List.getElem?_eq_some_iff.1 hu).1
    have e := flat_get (sz := 3) (L.map spL) (fun c hc => by obtain ⟨x, _, rfl⟩ := List.mem_map.1 hc; rfl) i j (spL x) (by rw [List.getElem?_map, hi]; rfl) hj
    have e2 : (flatS L)[i * 3 + j]? = some u := e.trans hu
    rw [← h4, List.getElem?_take] at e2
    rw [← Array.getElem?_toList]
    split at e2
    · exact e2
    · cases e2
theorem own_of_held {w : World} {B g n c : Nat} {L : List Sp} (h : HeldS w g c L) (hl : L.length = n) (hn : n ≤ c) (hc : c ≤ maxLen) (hB : B ≤ g) : w.ownsRow B 35 3 (.slice (some ⟨g, 0, none⟩) n c) n (flatS L) := by
  obtain ⟨C, h1, h2, h3⟩ := h
  refine ⟨by rw [flatS_len, hl], .inr ⟨g, c, C, rfl, hB, h1, hn, hc, h2, ?_⟩⟩
  refine List.ext_getElem? fun m => ?_
  rw [List.getElem?_take]
  by_cases hm : m < n * 3
  · rw [if_pos hm]
    have hi : m / 3 < L.length := by omega
    have hj : m % 3 < 3 := Nat.mod_lt _ (by decide)
    have e := flat_get (sz := 3) (L.map spL) (fun c hc => by obtain ⟨x, _, rfl⟩ := List.mem_map.1 hc; rfl) (m / 3) (m % 3) (spL (sg L (m / 3))) (by rw [List.getElem?_map, sg_at hi]; rfl) hj
    rw [Nat.div_add_mod' m 3] at e
    show _ = (flatS L)[m]?
    have e' : (flatS L)[m]? = (spL (sg L (m / 3)))[m % 3]? := e
    rw [e']
    have hj3 : m % 3 < (spL (sg L (m / 3))).length := hj
    rw [List.getElem?_eq_getElem hj3]
    have := h3 (m / 3) _ (sg_at hi) (m % 3) _ (List.getElem?_eq_getElem hj3)
    rw [Nat.div_add_mod' m 3, ← Array.getElem?_toList] at this
    exact this
  · rw [if_neg hm, List.getElem?_eq_none (by rw [flatS_len, hl]; omega)]
theorem HpAt.row {w : World} {h : HR} (H : HpAt w h) : (h.A = none ∧ h.L = [] ∧ h.c = 0) ∨ ∃ g, h.A = some ⟨g, 0, none⟩ ∧ g < w.heap.size ∧ h.hb ≠ g ∧ HeldS w g h.c h.L ∧ h.L.length ≤ h.c ∧ h.c ≤ maxLen := by
  rcases H.own.2 with ⟨q, h0⟩ | ⟨g, cap, cur, q, _, hh, _⟩
  · injection q with q1 q2 q3
    exact .inl ⟨q1, List.eq_nil_of_length_eq_zero h0, q3⟩
  · injection q with q1 q2 q3
    have ho := H.own
    rw [q1] at ho
    obtain ⟨k1, k2, k3⟩ := held_of_own ho
    exact .inr ⟨g, q1, k1.lt, fun e => H.ne (by rw [q1, e]), k1, k2, k3⟩
theorem HpAt.of_held {w : World} {h : HR} {g : Nat} (hb : Blk w h.hb h.T h.C) (hA : h.A = some ⟨g, 0, none⟩) (hne : h.hb ≠ g) (hh : HeldS w g h.c h.L) (hn : h.L.length ≤ h.c) (hc : h.c ≤ maxLen) : HpAt w h :=
  ⟨hb, by rw [hA]; exact own_of_held hh rfl hn hc (Nat.zero_le _), fun e => by rw [hA] at e; injection e with e; injection e with e _ _; exact hne e.symm⟩
theorem HpAt.foot_lt {w : World} {h : HR} (H : HpAt w h) : ∀ k, foot h k → k < w.heap.size := by
  rintro k (rfl | e)
  · exact H.blk.lt
  · rcases H.row with ⟨q, _⟩ | ⟨g, q, hg, _⟩
    · rw [q] at e; cases e
    · rw [q] at e; injection e with e; injection e with e _ _; subst e; exact hg
theorem HpAt.tch {w w' : World} {h : HR} {S : Nat → Prop} (H : HpAt w h) (hT : Tch S w w') (hS : ∀ k, foot h k → ¬ S k) : HpAt w' h := by
  have hb := H.blk.tch hT (hS _ (.inl rfl))
  rcases H.row with ⟨q1, q2, q3⟩ | ⟨g, q, hg, hne, hh, hn, hc⟩
  · refine ⟨hb, ?_, H.ne⟩
    rw [q1, q2, q3]
    exact World.ownsRow_nil _ _ _ _
  · exact .of_held hb q hne (hh.tch1 hT (hS _ (.inr q))) hn hc
theorem store_spots {w : World} {b o : Nat} {u : Value} {A : Option Addr} {n c : Nat} (h : w.cell? ⟨b, o, none⟩ = some u) (hf : w.frozen? ⟨b, o, none⟩ = false) : (Instr.storeAt 25 (.pointer (some ⟨b, o, none⟩)) (.slice A n c)).run Try.prog w = .ok () (w.setCell ⟨b, o, none⟩ (.slice A n c)) := by
  simp [go_sem, h, hf]
theorem field0 {v u : Value} {l : List Value} : (v :: l).toArray.setIfInBounds 0 u = (u :: l).toArray := by simp
/-- What an own row's step may touch. -/
theorem own_foot {w : World} {h : HR} (H : HpAt w h) : ∀ k, some k = (Value.slice h.A h.L.length h.c).ownBlock → foot h k := by
  intro k hk
  rcases H.row with ⟨q, _⟩ | ⟨g, q, _⟩
  · rw [q] at hk; cases hk
  · rw [q] at hk
    injection hk with hk
    subst hk
    exact .inr q
set_option maxRecDepth 100000 in
set_option maxHeartbeats 8000000 in
/-- A spot into a heap. -/
theorem hp_push {ah : Sp → Sp → Bool} (ho : Tot ah) (h : HR) (hF : AhF h.f ah) (x : Sp) (w : World) (H : HpAt w h) (hH : Hp ah h.L) (hn : h.L.length < 1048576) :
    Calls Try.prog 30 #[.pointer (some ⟨h.hb, 0, none⟩), spV x] w (fun e w' => e = .returned (.tuple #[]) ∧ ∃ A' c' L', HpAt w' { h with A := A', c := c', L := L' } ∧ L'.Perm (h.L ++ [x]) ∧ Hp ah L' ∧ Tch (foot h) w w' ∧ ∃ g, A' = some ⟨g, 0, none⟩ ∧ (h.A = some ⟨g, 0, none⟩ ∨ w.heap.size ≤ g)) := by
  obtain ⟨w1, hw1⟩ : ∃ y, w.alloc (.cells #[.int .u64 x.d, .int .u64 x.id, .int .i64 x.s] 35) = y := ⟨_, rfl⟩
  have hS : Blk w1 w.heap.size 35 (spC x) := by rw [← hw1]; exact Blk.new _ _ _
  have b1 : Below w.heap.size w w1 := by rw [← hw1]; exact bel_box _ _
  have H1 : HpAt w1 h := H.tch (Tch.of_below (S := fun _ => False) b1) (fun _ _ q => q)
  have HH := Lib.hid H1
  have HFT := Lib.hid H.foot_lt
  have HS := Lib.hid hS
  have HB1 := Lib.hid b1
  have HHF := Lib.hid hF
  have HOO := Lib.hid ho
  have HHP := Lib.hid hH
  obtain ⟨n, hln⟩ : ∃ n, h.L.length = n := ⟨_, rfl⟩
  obtain ⟨hb, hhb⟩ : ∃ b, h.hb = b := ⟨_, rfl⟩
  obtain ⟨A, hA⟩ : ∃ A, h.A = A := ⟨_, rfl⟩
  obtain ⟨c, hc⟩ : ∃ c, h.c = c := ⟨_, rfl⟩
  have HLN := Lib.hid hln
  have HHB := Lib.hid hhb
  have HA := Lib.hid hA
  have HC := Lib.hid hc
  have HN : Hid (n < 1048576) := by show n < _; rw [← hln]; exact hn
  have HKB : Hid (Blk w1 hb h.T (.slice A n c :: fvA h.f :: h.rest).toArray) := by
    show Blk _ _ _ _
    rw [← hhb, ← hA, ← hln, ← hc]
    exact H1.blk
  have HO1 : Hid (w1.ownsRow 0 35 3 (.slice A n c) n (flatS h.L)) := by
    show World.ownsRow _ _ _ _ _ _ _
    rw [← hA, ← hln, ← hc]
    exact H1.own
  rw [hhb]
  clear hF ho H hH hS b1 H1 hn hln hhb hA hc
  unfold spV
  go_enter Try.func30, Try.ntmps30
  go_upto_region 1 with fail
  (try rw [hw1])
  clear hw1
  refine wp_region_held_drew (S := fun _ => True) (by kernel_rfl) (trivial) (fun hH => ?_)
  refine wpAnyH_take (i := 0) (v := .pointer (some ⟨hb, 0, none⟩)) rfl (by kernel_rfl) (by kernel_rfl) (by kernel_rfl) (fun _ _ _ h => h) (.inl ⟨by rfl, fun _ _ => by kernel_rfl⟩) hH ?_
  (try simp only [List.getElem_toArray, List.getElem_cons_zero, Act.put, List.setIfInBounds_toArray, List.set_cons_zero, List.set_cons_succ])
  refine wpAnyH_take (i := 1) (v := .pointer (some ⟨hb, 0, none⟩)) rfl (by kernel_rfl) (by kernel_rfl) (by kernel_rfl) (fun _ _ _ h => h) (.inl ⟨by rfl, fun _ _ => by kernel_rfl⟩) hH ?_
  (try simp only [List.getElem_toArray, List.getElem_cons_zero, List.getElem_cons_succ, Act.put, List.setIfInBounds_toArray, List.set_cons_zero, List.set_cons_succ])
  refine wpAnyH_take (i := 2) (v := .pointer (some ⟨hb, 0, none⟩)) rfl (by kernel_rfl) (by kernel_rfl) (by kernel_rfl) (fun _ _ _ h => h) (.inl ⟨by rfl, fun _ _ => by kernel_rfl⟩) hH ?_
  (try simp only [List.getElem_toArray, List.getElem_cons_zero, List.getElem_cons_succ, Act.put, List.setIfInBounds_toArray, List.set_cons_zero, List.set_cons_succ])
  refine wpAnyH_take (i := 3) (v := .pointer (some ⟨hb, 0, none⟩)) rfl (by kernel_rfl) (by kernel_rfl) (by kernel_rfl) (fun _ _ _ h => h) (.inl ⟨by rfl, fun _ _ => by kernel_rfl⟩) hH ?_
  (try simp only [List.getElem_toArray, List.getElem_cons_zero, List.getElem_cons_succ, Act.put, List.setIfInBounds_toArray, List.set_cons_zero, List.set_cons_succ])
  refine wpAnyH_all (rs := [4, 5]) (by kernel_rfl) (by simp) (fun i9 hi9 => ?_)
  rcases (by simpa using hi9 : i9 = 4 ∨ i9 = 5) with rfl | rfl
  · refine wpOp_value (.slice A n c) (by rfl) (by kernel_rfl) (exec_loadK (by rfl) (by rfl) (load_spots ((HKB.out.cell 0).trans rfl))) ⟨trivial, ?_⟩
    (try simp only [List.getElem_toArray, List.getElem_cons_zero, List.getElem_cons_succ, Act.put, List.setIfInBounds_toArray, List.set_cons_zero, List.set_cons_succ])
    refine wpAnyH_value 5 (spV x) (by kernel_rfl) (by rfl) (by kernel_rfl) (exec_loadK (by rfl) (by rfl) (spB_load HS.out)) trivial ?_
    (try simp only [List.getElem_toArray, List.getElem_cons_zero, List.getElem_cons_succ, Act.put, List.setIfInBounds_toArray, List.set_cons_zero, List.set_cons_succ])
    refine wpAnyH_makeK 6 (.slice (some ⟨w1.drew.heap.size, 0, none⟩) 1 1) (by kernel_rfl) (by rfl) (by kernel_rfl) (exec_spotK (x := x) (by rfl) (by kernel_rfl) w1.drew) trivial ?_
    (try simp only [List.getElem_toArray, List.getElem_cons_zero, List.getElem_cons_succ, Act.put, List.setIfInBounds_toArray, List.set_cons_zero, List.set_cons_succ])
    refine wpAnyH_push1 7 (by kernel_rfl) (by rfl) (.tmp 8) (.tmp 10) 25 35 3 24 _ (by rfl) Try.underlying25 info_spotK rfl (by decide) w1.drew 0 (.slice A n c) n (flatS h.L) (spC x) rfl (by kernel_rfl) rfl HO1.out rfl rfl (fun u hu => by rcases (by simpa [spC] using hu : u = _ ∨ u = _ ∨ u = _) with rfl | rfl | rfl <;> rfl) (by have := HN.out; omega) (by decide) (Nat.zero_le _) ?_
    intro g cap Z2 hown hgr _ hat
    refine ⟨trivial, ?_⟩
    (try simp only [List.getElem_toArray, List.getElem_cons_zero, List.getElem_cons_succ, Act.put, List.setIfInBounds_toArray, List.set_cons_zero, List.set_cons_succ])
    have hfl : flatS h.L ++ (spC x).toList = flatS (h.L ++ [x]) := by rw [flatS_appC]; rfl
    rw [hfl] at hown
    have hne : hb ≠ g := by
      rcases hat with q | q
      · intro e
        subst e
        have h1 := own_foot HH.out hb (by rw [HA.out, HLN.out, HC.out]; exact q.symm)
        rcases HH.out.row with ⟨q1, _⟩ | ⟨g1, q1, _, q2, _⟩
        · rw [HA.out] at q1; rw [q1] at q; cases q
        · rw [HA.out] at q1; rw [q1] at q; injection q with q; exact q2 (HHB.out.trans q.symm)
      · have h1 : hb < w1.heap.size := HKB.out.lt
        have h2 : w1.heap.size ≤ g := q
        omega
    have hBZ : Blk Z2 hb h.T (.slice A n c :: fvA h.f :: h.rest).toArray := Blk.grown (w := w1.drew) HKB.out hgr (fun e => by
      rcases HH.out.row with ⟨q1, _⟩ | ⟨g1, q1, _, q2, _⟩
      · rw [HA.out] at q1; rw [q1] at e; cases e
      · rw [HA.out] at q1; rw [q1] at e; injection e with e; exact q2 (HHB.out.trans e))
    have SR := store_spots (A := some ⟨g, 0, none⟩) (n := n + 1) (c := cap) ((hBZ.cell 0).trans rfl) (hBZ.frozen 0)
    obtain ⟨V, hV⟩ : ∃ V, Z2.setCell ⟨hb, 0, none⟩ (.slice (some ⟨g, 0, none⟩) (n + 1) cap) = V := ⟨_, rfl⟩
    have hBV : Blk V hb h.T (.slice (some ⟨g, 0, none⟩) (n + 1) cap :: fvA h.f :: h.rest).toArray := by rw [← hV, ← field0 (v := .slice A n c)]; exact hBZ.set_ 0 _
    obtain ⟨k1, k2, k3⟩ := held_of_own hown
    have HHV : Hid (HeldS V g cap (h.L ++ [x])) := by show HeldS _ _ _ _; rw [← hV]; exact k1.tch1 ((Tch.refl (fun k => k = hb) Z2).setCell rfl 0 _) (fun e => hne e.symm)
    have HTV : Hid (Tch (foot h) w V) := by
      show Tch _ _ _
      rw [← hV]
      have t1 : Tch (foot h) w w1.drew := (Tch.of_below HB1.out).drewN 1
      have t2 : Tch (foot h) w Z2 := t1.trans (grownBy_tch hgr) (fun k hk => .inl (own_foot HH.out k (by rw [HA.out, HLN.out, HC.out]; exact hk)))
      exact t2.setCell (.inl HHB.out.symm) 0 _
    have HCAP : Hid (n + 1 ≤ cap ∧ cap ≤ maxLen) := ⟨k2, k3⟩
    have HNE := Lib.hid hne
    have HAT : Hid (h.A = some ⟨g, 0, none⟩ ∨ w.heap.size ≤ g) := by
      rcases hat with q | q
      · rcases HH.out.row with ⟨q1, _⟩ | ⟨g1, q1, _⟩
        · rw [HA.out] at q1; rw [q1] at q; cases q
        · left; rw [q1]; rw [HA.out] at q1; rw [q1] at q; injection q with q; subst q; rfl
      · right
        exact Nat.le_trans HB1.out.size q
    rw [hV] at SR
    refine wpAnyH_take (i := 8) (v := .pointer (some ⟨hb, 0, none⟩)) rfl (by kernel_rfl) (by kernel_rfl) (by kernel_rfl) (fun _ _ _ h => h) (.inl ⟨by rfl, fun _ _ => by kernel_rfl⟩) trivial ?_
    (try simp only [List.getElem_toArray, List.getElem_cons_zero, List.getElem_cons_succ, Act.put, List.setIfInBounds_toArray, List.set_cons_zero, List.set_cons_succ])
    refine wpAnyH_take (i := 9) (v := .pointer (some ⟨hb, 0, none⟩)) rfl (by kernel_rfl) (by kernel_rfl) (by kernel_rfl) (fun _ _ _ h => h) (.inl ⟨by rfl, fun _ _ => by kernel_rfl⟩) trivial ?_
    (try simp only [List.getElem_toArray, List.getElem_cons_zero, List.getElem_cons_succ, Act.put, List.setIfInBounds_toArray, List.set_cons_zero, List.set_cons_succ])
    refine wpAnyH_store 10 _ _ _ (by kernel_rfl) (by rfl) (by kernel_rfl) (by rfl) (by rfl) (by rfl) SR trivial ?_
    (try simp only [List.getElem_toArray, List.getElem_cons_zero, List.getElem_cons_succ, Act.put])
    refine wpAnyH_done (by kernel_rfl) ?_ _
    clear hown hgr hat hfl hne hBZ SR hV k1 k2 k3
    have HBV := Lib.hid hBV
    have hb0 : V.cell? ⟨hb, 0, none⟩ = some (.slice (some ⟨g, 0, none⟩) (n + 1) cap) := (hBV.cell 0).trans rfl
    have e1 : wrap64 (n : Int) = (n : Int) := by unfold wrap64; have := HN.out; omega
    have HUP := hp_up HHF.out HOO.out (i0 := h.L.length) V HBV.out rfl rfl HNE.out HHV.out (by rw [List.length_append, HLN.out]; rfl) HCAP.out.1 (by have := HN.out; omega) (UpI.start HHP.out)
    rw [HLN.out] at HUP
    replace HUP := Lib.hid HUP
    clear hBV
    go_wp2_with (go_at_call 47; (with_reducible refine HUP.out.mono ?_); rintro e V2 ⟨rfl, L', hpm, hhp, hhe, hte⟩; replace hpm := Lib.hid hpm; replace hhp := Lib.hid hhp; replace hhe := Lib.hid hhe; replace hte := Lib.hid hte)
    go_end0
    have hl' : L'.length = n + 1 := by rw [hpm.out.length_eq, List.length_append, HLN.out]; rfl
    refine ⟨rfl, some ⟨g, 0, none⟩, cap, L', .of_held (g := g) ?_ rfl ?_ hhe.out ?_ HCAP.out.2, hpm.out, hhp.out, HTV.out.trans hte.out ?_, g, rfl, HAT.out⟩
    · show Blk V2 hb h.T (.slice (some ⟨g, 0, none⟩) L'.length cap :: fvA h.f :: h.rest).toArray
      rw [hl']
      exact HBV.out.tch hte.out HNE.out
    · show hb ≠ g
      exact HNE.out
    · show L'.length ≤ cap
      rw [hl']
      exact HCAP.out.1
    · rintro k rfl
      rcases HAT.out with q | q
      · exact .inl (.inr q)
      · exact .inr q
  · refine wpOp_value (spV x) (by rfl) (by kernel_rfl) (exec_loadK (by rfl) (by rfl) (spB_load HS.out)) ⟨trivial, ?_⟩
    (try simp only [List.getElem_toArray, List.getElem_cons_zero, List.getElem_cons_succ, Act.put, List.setIfInBounds_toArray, List.set_cons_zero, List.set_cons_succ])
    refine wpAnyH_all (rs := [4, 6]) (by kernel_rfl) (by simp) (fun i9 hi9 => ?_)
    rcases (by simpa using hi9 : i9 = 4 ∨ i9 = 6) with rfl | rfl
    · refine wpOp_value (.slice A n c) (by rfl) (by kernel_rfl) (exec_loadK (by rfl) (by rfl) (load_spots ((HKB.out.cell 0).trans rfl))) ⟨trivial, ?_⟩
      (try simp only [List.getElem_toArray, List.getElem_cons_zero, List.getElem_cons_succ, Act.put, List.setIfInBounds_toArray, List.set_cons_zero, List.set_cons_succ])
      refine wpAnyH_makeK 6 (.slice (some ⟨w1.drew.heap.size, 0, none⟩) 1 1) (by kernel_rfl) (by rfl) (by kernel_rfl) (exec_spotK (x := x) (by rfl) (by kernel_rfl) w1.drew) trivial ?_
      (try simp only [List.getElem_toArray, List.getElem_cons_zero, List.getElem_cons_succ, Act.put, List.setIfInBounds_toArray, List.set_cons_zero, List.set_cons_succ])
      refine wpAnyH_push1 7 (by kernel_rfl) (by rfl) (.tmp 8) (.tmp 10) 25 35 3 24 _ (by rfl) Try.underlying25 info_spotK rfl (by decide) w1.drew 0 (.slice A n c) n (flatS h.L) (spC x) rfl (by kernel_rfl) rfl HO1.out rfl rfl (fun u hu => by rcases (by simpa [spC] using hu : u = _ ∨ u = _ ∨ u = _) with rfl | rfl | rfl <;> rfl) (by have := HN.out; omega) (by decide) (Nat.zero_le _) ?_
      intro g cap Z2 hown hgr _ hat
      refine ⟨trivial, ?_⟩
      (try simp only [List.getElem_toArray, List.getElem_cons_zero, List.getElem_cons_succ, Act.put, List.setIfInBounds_toArray, List.set_cons_zero, List.set_cons_succ])
      have hfl : flatS h.L ++ (spC x).toList = flatS (h.L ++ [x]) := by rw [flatS_appC]; rfl
      rw [hfl] at hown
      have hne : hb ≠ g := by
        rcases hat with q | q
        · intro e
          subst e
          have h1 := own_foot HH.out hb (by rw [HA.out, HLN.out, HC.out]; exact q.symm)
          rcases HH.out.row with ⟨q1, _⟩ | ⟨g1, q1, _, q2, _⟩
          · rw [HA.out] at q1; rw [q1] at q; cases q
          · rw [HA.out] at q1; rw [q1] at q; injection q with q; exact q2 (HHB.out.trans q.symm)
        · have h1 : hb < w1.heap.size := HKB.out.lt
          have h2 : w1.heap.size ≤ g := q
          omega
      have hBZ : Blk Z2 hb h.T (.slice A n c :: fvA h.f :: h.rest).toArray := Blk.grown (w := w1.drew) HKB.out hgr (fun e => by
        rcases HH.out.row with ⟨q1, _⟩ | ⟨g1, q1, _, q2, _⟩
        · rw [HA.out] at q1; rw [q1] at e; cases e
        · rw [HA.out] at q1; rw [q1] at e; injection e with e; exact q2 (HHB.out.trans e))
      have SR := store_spots (A := some ⟨g, 0, none⟩) (n := n + 1) (c := cap) ((hBZ.cell 0).trans rfl) (hBZ.frozen 0)
      obtain ⟨V, hV⟩ : ∃ V, Z2.setCell ⟨hb, 0, none⟩ (.slice (some ⟨g, 0, none⟩) (n + 1) cap) = V := ⟨_, rfl⟩
      have hBV : Blk V hb h.T (.slice (some ⟨g, 0, none⟩) (n + 1) cap :: fvA h.f :: h.rest).toArray := by rw [← hV, ← field0 (v := .slice A n c)]; exact hBZ.set_ 0 _
      obtain ⟨k1, k2, k3⟩ := held_of_own hown
      have HHV : Hid (HeldS V g cap (h.L ++ [x])) := by show HeldS _ _ _ _; rw [← hV]; exact k1.tch1 ((Tch.refl (fun k => k = hb) Z2).setCell rfl 0 _) (fun e => hne e.symm)
      have HTV : Hid (Tch (foot h) w V) := by
        show Tch _ _ _
        rw [← hV]
        have t1 : Tch (foot h) w w1.drew := (Tch.of_below HB1.out).drewN 1
        have t2 : Tch (foot h) w Z2 := t1.trans (grownBy_tch hgr) (fun k hk => .inl (own_foot HH.out k (by rw [HA.out, HLN.out, HC.out]; exact hk)))
        exact t2.setCell (.inl HHB.out.symm) 0 _
      have HCAP : Hid (n + 1 ≤ cap ∧ cap ≤ maxLen) := ⟨k2, k3⟩
      have HNE := Lib.hid hne
      have HAT : Hid (h.A = some ⟨g, 0, none⟩ ∨ w.heap.size ≤ g) := by
        rcases hat with q | q
        · rcases HH.out.row with ⟨q1, _⟩ | ⟨g1, q1, _⟩
          · rw [HA.out] at q1; rw [q1] at q; cases q
          · left; rw [q1]; rw [HA.out] at q1; rw [q1] at q; injection q with q; subst q; rfl
        · right
          exact Nat.le_trans HB1.out.size q
      rw [hV] at SR
      refine wpAnyH_take (i := 8) (v := .pointer (some ⟨hb, 0, none⟩)) rfl (by kernel_rfl) (by kernel_rfl) (by kernel_rfl) (fun _ _ _ h => h) (.inl ⟨by rfl, fun _ _ => by kernel_rfl⟩) trivial ?_
      (try simp only [List.getElem_toArray, List.getElem_cons_zero, List.getElem_cons_succ, Act.put, List.setIfInBounds_toArray, List.set_cons_zero, List.set_cons_succ])
      refine wpAnyH_take (i := 9) (v := .pointer (some ⟨hb, 0, none⟩)) rfl (by kernel_rfl) (by kernel_rfl) (by kernel_rfl) (fun _ _ _ h => h) (.inl ⟨by rfl, fun _ _ => by kernel_rfl⟩) trivial ?_
      (try simp only [List.getElem_toArray, List.getElem_cons_zero, List.getElem_cons_succ, Act.put, List.setIfInBounds_toArray, List.set_cons_zero, List.set_cons_succ])
      refine wpAnyH_store 10 _ _ _ (by kernel_rfl) (by rfl) (by kernel_rfl) (by rfl) (by rfl) (by rfl) SR trivial ?_
      (try simp only [List.getElem_toArray, List.getElem_cons_zero, List.getElem_cons_succ, Act.put])
      refine wpAnyH_done (by kernel_rfl) ?_ _
      clear hown hgr hat hfl hne hBZ SR hV k1 k2 k3
      have HBV := Lib.hid hBV
      have hb0 : V.cell? ⟨hb, 0, none⟩ = some (.slice (some ⟨g, 0, none⟩) (n + 1) cap) := (hBV.cell 0).trans rfl
      have e1 : wrap64 (n : Int) = (n : Int) := by unfold wrap64; have := HN.out; omega
      have HUP := hp_up HHF.out HOO.out (i0 := h.L.length) V HBV.out rfl rfl HNE.out HHV.out (by rw [List.length_append, HLN.out]; rfl) HCAP.out.1 (by have := HN.out; omega) (UpI.start HHP.out)
      rw [HLN.out] at HUP
      replace HUP := Lib.hid HUP
      clear hBV
      go_wp2_with (go_at_call 47; (with_reducible refine HUP.out.mono ?_); rintro e V2 ⟨rfl, L', hpm, hhp, hhe, hte⟩; replace hpm := Lib.hid hpm; replace hhp := Lib.hid hhp; replace hhe := Lib.hid hhe; replace hte := Lib.hid hte)
      go_end0
      have hl' : L'.length = n + 1 := by rw [hpm.out.length_eq, List.length_append, HLN.out]; rfl
      refine ⟨rfl, some ⟨g, 0, none⟩, cap, L', .of_held (g := g) ?_ rfl ?_ hhe.out ?_ HCAP.out.2, hpm.out, hhp.out, HTV.out.trans hte.out ?_, g, rfl, HAT.out⟩
      · show Blk V2 hb h.T (.slice (some ⟨g, 0, none⟩) L'.length cap :: fvA h.f :: h.rest).toArray
        rw [hl']
        exact HBV.out.tch hte.out HNE.out
      · show hb ≠ g
        exact HNE.out
      · show L'.length ≤ cap
        rw [hl']
        exact HCAP.out.1
      · rintro k rfl
        rcases HAT.out with q | q
        · exact .inl (.inr q)
        · exact .inr q
    · refine wpOp_value (.slice (some ⟨w1.drew.heap.size, 0, none⟩) 1 1) (by rfl) (by kernel_rfl) (exec_spotK (x := x) (by rfl) (by kernel_rfl) w1.drew) ⟨trivial, ?_⟩
      (try simp only [List.getElem_toArray, List.getElem_cons_zero, List.getElem_cons_succ, Act.put, List.setIfInBounds_toArray, List.set_cons_zero, List.set_cons_succ])
      refine wpAnyH_value 4 (.slice A n c) (by kernel_rfl) (by rfl) (by kernel_rfl) (exec_loadK (by rfl) (by rfl) (load_spots (((bel_box w1.drew _).cell (p := ⟨hb, 0, none⟩) HKB.out.lt).trans ((HKB.out.cell 0).trans rfl)))) trivial ?_
      (try simp only [List.getElem_toArray, List.getElem_cons_zero, List.getElem_cons_succ, Act.put, List.setIfInBounds_toArray, List.set_cons_zero, List.set_cons_succ])
      refine wpAnyH_push1 7 (by kernel_rfl) (by rfl) (.tmp 8) (.tmp 10) 25 35 3 24 _ (by rfl) Try.underlying25 info_spotK rfl (by decide) w1.drew 0 (.slice A n c) n (flatS h.L) (spC x) rfl (by kernel_rfl) rfl HO1.out rfl rfl (fun u hu => by rcases (by simpa [spC] using hu : u = _ ∨ u = _ ∨ u = _) with rfl | rfl | rfl <;> rfl) (by have := HN.out; omega) (by decide) (Nat.zero_le _) ?_
      intro g cap Z2 hown hgr _ hat
      refine ⟨trivial, ?_⟩
      (try simp only [List.getElem_toArray, List.getElem_cons_zero, List.getElem_cons_succ, Act.put, List.setIfInBounds_toArray, List.set_cons_zero, List.set_cons_succ])
      have hfl : flatS h.L ++ (spC x).toList = flatS (h.L ++ [x]) := by rw [flatS_appC]; rfl
      rw [hfl] at hown
      have hne : hb ≠ g := by
        rcases hat with q | q
        · intro e
          subst e
          have h1 := own_foot HH.out hb (by rw [HA.out, HLN.out, HC.out]; exact q.symm)
          rcases HH.out.row with ⟨q1, _⟩ | ⟨g1, q1, _, q2, _⟩
          · rw [HA.out] at q1; rw [q1] at q; cases q
          · rw [HA.out] at q1; rw [q1] at q; injection q with q; exact q2 (HHB.out.trans q.symm)
        · have h1 : hb < w1.heap.size := HKB.out.lt
          have h2 : w1.heap.size ≤ g := q
          omega
      have hBZ : Blk Z2 hb h.T (.slice A n c :: fvA h.f :: h.rest).toArray := Blk.grown (w := w1.drew) HKB.out hgr (fun e => by
        rcases HH.out.row with ⟨q1, _⟩ | ⟨g1, q1, _, q2, _⟩
        · rw [HA.out] at q1; rw [q1] at e; cases e
        · rw [HA.out] at q1; rw [q1] at e; injection e with e; exact q2 (HHB.out.trans e))
      have SR := store_spots (A := some ⟨g, 0, none⟩) (n := n + 1) (c := cap) ((hBZ.cell 0).trans rfl) (hBZ.frozen 0)
      obtain ⟨V, hV⟩ : ∃ V, Z2.setCell ⟨hb, 0, none⟩ (.slice (some ⟨g, 0, none⟩) (n + 1) cap) = V := ⟨_, rfl⟩
      have hBV : Blk V hb h.T (.slice (some ⟨g, 0, none⟩) (n + 1) cap :: fvA h.f :: h.rest).toArray := by rw [← hV, ← field0 (v := .slice A n c)]; exact hBZ.set_ 0 _
      obtain ⟨k1, k2, k3⟩ := held_of_own hown
      have HHV : Hid (HeldS V g cap (h.L ++ [x])) := by show HeldS _ _ _ _; rw [← hV]; exact k1.tch1 ((Tch.refl (fun k => k = hb) Z2).setCell rfl 0 _) (fun e => hne e.symm)
      have HTV : Hid (Tch (foot h) w V) := by
        show Tch _ _ _
        rw [← hV]
        have t1 : Tch (foot h) w w1.drew := (Tch.of_below HB1.out).drewN 1
        have t2 : Tch (foot h) w Z2 := t1.trans (grownBy_tch hgr) (fun k hk => .inl (own_foot HH.out k (by rw [HA.out, HLN.out, HC.out]; exact hk)))
        exact t2.setCell (.inl HHB.out.symm) 0 _
      have HCAP : Hid (n + 1 ≤ cap ∧ cap ≤ maxLen) := ⟨k2, k3⟩
      have HNE := Lib.hid hne
      have HAT : Hid (h.A = some ⟨g, 0, none⟩ ∨ w.heap.size ≤ g) := by
        rcases hat with q | q
        · rcases HH.out.row with ⟨q1, _⟩ | ⟨g1, q1, _⟩
          · rw [HA.out] at q1; rw [q1] at q; cases q
          · left; rw [q1]; rw [HA.out] at q1; rw [q1] at q; injection q with q; subst q; rfl
        · right
          exact Nat.le_trans HB1.out.size q
      rw [hV] at SR
      refine wpAnyH_take (i := 8) (v := .pointer (some ⟨hb, 0, none⟩)) rfl (by kernel_rfl) (by kernel_rfl) (by kernel_rfl) (fun _ _ _ h => h) (.inl ⟨by rfl, fun _ _ => by kernel_rfl⟩) trivial ?_
      (try simp only [List.getElem_toArray, List.getElem_cons_zero, List.getElem_cons_succ, Act.put, List.setIfInBounds_toArray, List.set_cons_zero, List.set_cons_succ])
      refine wpAnyH_take (i := 9) (v := .pointer (some ⟨hb, 0, none⟩)) rfl (by kernel_rfl) (by kernel_rfl) (by kernel_rfl) (fun _ _ _ h => h) (.inl ⟨by rfl, fun _ _ => by kernel_rfl⟩) trivial ?_
      (try simp only [List.getElem_toArray, List.getElem_cons_zero, List.getElem_cons_succ, Act.put, List.setIfInBounds_toArray, List.set_cons_zero, List.set_cons_succ])
      refine wpAnyH_store 10 _ _ _ (by kernel_rfl) (by rfl) (by kernel_rfl) (by rfl) (by rfl) (by rfl) SR trivial ?_
      (try simp only [List.getElem_toArray, List.getElem_cons_zero, List.getElem_cons_succ, Act.put])
      refine wpAnyH_done (by kernel_rfl) ?_ _
      clear hown hgr hat hfl hne hBZ SR hV k1 k2 k3
      have HBV := Lib.hid hBV
      have hb0 : V.cell? ⟨hb, 0, none⟩ = some (.slice (some ⟨g, 0, none⟩) (n + 1) cap) := (hBV.cell 0).trans rfl
      have e1 : wrap64 (n : Int) = (n : Int) := by unfold wrap64; have := HN.out; omega
      have HUP := hp_up HHF.out HOO.out (i0 := h.L.length) V HBV.out rfl rfl HNE.out HHV.out (by rw [List.length_append, HLN.out]; rfl) HCAP.out.1 (by have := HN.out; omega) (UpI.start HHP.out)
      rw [HLN.out] at HUP
      replace HUP := Lib.hid HUP
      clear hBV
      go_wp2_with (go_at_call 47; (with_reducible refine HUP.out.mono ?_); rintro e V2 ⟨rfl, L', hpm, hhp, hhe, hte⟩; replace hpm := Lib.hid hpm; replace hhp := Lib.hid hhp; replace hhe := Lib.hid hhe; replace hte := Lib.hid hte)
      go_end0
      have hl' : L'.length = n + 1 := by rw [hpm.out.length_eq, List.length_append, HLN.out]; rfl
      refine ⟨rfl, some ⟨g, 0, none⟩, cap, L', .of_held (g := g) ?_ rfl ?_ hhe.out ?_ HCAP.out.2, hpm.out, hhp.out, HTV.out.trans hte.out ?_, g, rfl, HAT.out⟩
      · show Blk V2 hb h.T (.slice (some ⟨g, 0, none⟩) L'.length cap :: fvA h.f :: h.rest).toArray
        rw [hl']
        exact HBV.out.tch hte.out HNE.out
      · show hb ≠ g
        exact HNE.out
      · show L'.length ≤ cap
        rw [hl']
        exact HCAP.out.1
      · rintro k rfl
        rcases HAT.out with q | q
        · exact .inl (.inr q)
        · exact .inr q

theorem HeldS.take {w : World} {g n : Nat} {l : List Sp} (h : HeldS w g n l) (m : Nat) : HeldS w g n (l.take m) := by
  obtain ⟨C, h1, h2, h3⟩ := h
  refine ⟨C, h1, h2, fun i x hx j u hu => ?_⟩
  rw [List.getElem?_take] at hx
  split at hx
  · exact h3 i x hx j u hu
  · cases hx
set_option maxRecDepth 100000 in
set_option maxHeartbeats 8000000 in
/-- The first spot out of a heap. -/
theorem hp_pop {ah : Sp → Sp → Bool} (ho : Tot ah) (h : HR) (hF : AhF h.f ah) (w : World) (H : HpAt w h) (hH : Hp ah h.L) (hn : h.L.length ≤ 1048576) (h0 : 0 < h.L.length) :
    Calls Try.prog 29 #[.pointer (some ⟨h.hb, 0, none⟩)] w (fun e w' => e = .returned (.tuple #[]) ∧ ∃ L', HpAt w' { h with L := L' } ∧ (sg h.L 0 :: L').Perm h.L ∧ Hp ah L' ∧ Tch (foot h) w w') := by
  obtain ⟨hb, T, f, rest, A, c, L⟩ := h
  obtain ⟨g, hA, hg, hne, hS, hnc, hc⟩ : ∃ g, A = some ⟨g, 0, none⟩ ∧ g < w.heap.size ∧ hb ≠ g ∧ HeldS w g c L ∧ L.length ≤ c ∧ c ≤ maxLen := by
    rcases H.row with ⟨_, q, _⟩ | q
    · have q' : L = [] := q
      subst q'
      exact absurd h0 (Nat.lt_irrefl 0)
    · exact q
  subst hA
  obtain ⟨n, hln⟩ : ∃ n, L.length = n := ⟨_, rfl⟩
  obtain ⟨m, hm⟩ : ∃ m, n - 1 = m := ⟨_, rfl⟩
  have hk : Blk w hb T (.slice (some ⟨g, 0, none⟩) n c :: fvA f :: rest).toArray := by rw [← hln]; exact H.blk
  have hlt : (0 : Nat) < n ∧ m + 1 = n := by
    have : 0 < L.length := h0
    omega
  have HKB := Lib.hid hk
  have HS := Lib.hid hS
  have HNE := Lib.hid hne
  have HLN := Lib.hid hln
  have HHF : Hid (AhF f ah) := hF
  have HOO := Lib.hid ho
  have HHP : Hid (Hp ah L) := hH
  have HN : Hid (n ≤ 1048576 ∧ n ≤ c ∧ c ≤ maxLen) := by refine ⟨?_, ?_, hc⟩; rw [← hln]; exact hn; rw [← hln]; exact hnc
  have HM := Lib.hid hlt
  have hb0 : w.cell? ⟨hb, 0, none⟩ = some (.slice (some ⟨g, 0, none⟩) n c) := (hk.cell 0).trans rfl
  have e1 : wrap64 ((n : Int) - 1) = ((m : Nat) : Int) := by unfold wrap64; have := HN.out; omega
  show Calls _ _ #[.pointer (some ⟨hb, 0, none⟩)] w _
  clear ho hF H hH hn h0 hS hnc hc hne hln hm hk hlt hg
  go_enter Try.func29, Try.ntmps29
  go_upto_region 1 with fail
  (try simp only [e1])
  clear e1 hb0
  have HMN : Hid (m < n) := by have := HM.out; show _ < _; omega
  have HC0 : Hid (0 < c) := by have h1 := HM.out; have h2 := HN.out; show _ < _; omega
  have HSD : Hid (HeldS w.drew g c L) := HS.out.tch (w' := w.drew) (below_drewN (Below.refl _ _) 1) HS.out.lt
  refine wp_region_held_drew (S := fun w' => Tch (fun k => k = g) w w') (by kernel_rfl) ((Tch.refl _ w).drewN 1) (fun hH => ?_)
  refine wpAnyH_take (i := 0) (v := .pointer (some ⟨hb, 0, none⟩)) rfl (by kernel_rfl) (by kernel_rfl) (by kernel_rfl) (fun _ _ _ h => h) (.inl ⟨by rfl, fun _ _ => by kernel_rfl⟩) hH ?_
  (try simp only [List.getElem_toArray, List.getElem_cons_zero, Act.put, List.setIfInBounds_toArray, List.set_cons_zero, List.set_cons_succ])
  refine wpAnyH_take (i := 1) (v := .pointer (some ⟨hb, 0, none⟩)) rfl (by kernel_rfl) (by kernel_rfl) (by kernel_rfl) (fun _ _ _ h => h) (.inl ⟨by rfl, fun _ _ => by kernel_rfl⟩) hH ?_
  (try simp only [List.getElem_toArray, List.getElem_cons_zero, List.getElem_cons_succ, Act.put, List.setIfInBounds_toArray, List.set_cons_zero, List.set_cons_succ])
  refine wpAnyH_take (i := 2) (v := .pointer (some ⟨hb, 0, none⟩)) rfl (by kernel_rfl) (by kernel_rfl) (by kernel_rfl) (fun _ _ _ h => h) (.inl ⟨by rfl, fun _ _ => by kernel_rfl⟩) hH ?_
  (try simp only [List.getElem_toArray, List.getElem_cons_zero, List.getElem_cons_succ, Act.put, List.setIfInBounds_toArray, List.set_cons_zero, List.set_cons_succ])
  refine wpAnyH_take (i := 3) (v := .slice (some ⟨g, 0, none⟩) n c) rfl (by kernel_rfl) (by kernel_rfl) (by kernel_rfl) (fun _ _ _ h => h) (yieldsIf_loadP (by rfl) _ rfl rfl (fun _ s => load_spots (((HKB.out.tch s HNE.out).cell 0).trans rfl))) hH ?_
  (try simp only [List.getElem_toArray, List.getElem_cons_zero, List.getElem_cons_succ, Act.put, List.setIfInBounds_toArray, List.set_cons_zero, List.set_cons_succ])
  refine wpAnyH_take (i := 4) (v := .pointer (some ⟨hb, 0, none⟩)) rfl (by kernel_rfl) (by kernel_rfl) (by kernel_rfl) (fun _ _ _ h => h) (.inl ⟨by rfl, fun _ _ => by kernel_rfl⟩) hH ?_
  (try simp only [List.getElem_toArray, List.getElem_cons_zero, List.getElem_cons_succ, Act.put, List.setIfInBounds_toArray, List.set_cons_zero, List.set_cons_succ])
  refine wpAnyH_take (i := 5) (v := .pointer (some ⟨hb, 0, none⟩)) rfl (by kernel_rfl) (by kernel_rfl) (by kernel_rfl) (fun _ _ _ h => h) (.inl ⟨by rfl, fun _ _ => by kernel_rfl⟩) hH ?_
  (try simp only [List.getElem_toArray, List.getElem_cons_zero, List.getElem_cons_succ, Act.put, List.setIfInBounds_toArray, List.set_cons_zero, List.set_cons_succ])
  refine wpAnyH_take (i := 6) (v := .pointer (some ⟨hb, 0, none⟩)) rfl (by kernel_rfl) (by kernel_rfl) (by kernel_rfl) (fun _ _ _ h => h) (.inl ⟨by rfl, fun _ _ => by kernel_rfl⟩) hH ?_
  (try simp only [List.getElem_toArray, List.getElem_cons_zero, List.getElem_cons_succ, Act.put, List.setIfInBounds_toArray, List.set_cons_zero, List.set_cons_succ])
  refine wpAnyH_take (i := 7) (v := .slice (some ⟨g, 0, none⟩) n c) rfl (by kernel_rfl) (by kernel_rfl) (by kernel_rfl) (fun _ _ _ h => h) (yieldsIf_loadP (by rfl) _ rfl rfl (fun _ s => load_spots (((HKB.out.tch s HNE.out).cell 0).trans rfl))) hH ?_
  (try simp only [List.getElem_toArray, List.getElem_cons_zero, List.getElem_cons_succ, Act.put, List.setIfInBounds_toArray, List.set_cons_zero, List.set_cons_succ])
  refine wpAnyH_take (i := 8) (v := .int .i64 ((m : Nat) : Int)) rfl (by kernel_rfl) (by kernel_rfl) (by kernel_rfl) (fun _ _ _ h => h) (.inl ⟨by rfl, fun _ _ => by kernel_rfl⟩) hH ?_
  (try simp only [List.getElem_toArray, List.getElem_cons_zero, List.getElem_cons_succ, Act.put, List.setIfInBounds_toArray, List.set_cons_zero, List.set_cons_succ])
  refine wpAnyH_take (i := 9) (v := .pointer (some ⟨g, 0 + m * 3, none⟩)) rfl (by kernel_rfl) (by kernel_rfl) (by kernel_rfl) (fun _ _ _ h => h) (yieldsIf_indexS (k := m) Try.underlying25 sizeSpE (by rfl) _ _ rfl rfl rfl HMN.out) hH ?_
  (try simp only [List.getElem_toArray, List.getElem_cons_zero, List.getElem_cons_succ, Act.put, List.setIfInBounds_toArray, List.set_cons_zero, List.set_cons_succ])
  refine wpAnyH_value 10 (spV (sg L m)) (by kernel_rfl) (by rfl) (by kernel_rfl) (exec_loadK (by rfl) (by rfl) (HSD.out.load (by rw [HLN.out]; exact HMN.out))) hH ?_
  (try simp only [List.getElem_toArray, List.getElem_cons_zero, List.getElem_cons_succ, Act.put, List.setIfInBounds_toArray, List.set_cons_zero, List.set_cons_succ])
  refine wpAnyH_take (i := 11) (v := .pointer (some ⟨g, 0 + 0 * 3, none⟩)) rfl (by kernel_rfl) (by kernel_rfl) (by kernel_rfl) (fun _ _ _ h => h) (yieldsIf_indexS (k := 0) Try.underlying25 sizeSpE (by rfl) _ _ rfl rfl rfl HM.out.1) hH ?_
  (try simp only [List.getElem_toArray, List.getElem_cons_zero, List.getElem_cons_succ, Act.put, List.setIfInBounds_toArray, List.set_cons_zero, List.set_cons_succ])
  refine wpAnyH_store 12 _ _ _ (by kernel_rfl) (by rfl) (by kernel_rfl) (by rfl) (by rfl) (by rfl) (HSD.out.store (sg L m) HC0.out) (Tch.setCells (S := fun k => k = g) rfl _ _ _ hH) ?_
  (try simp only [List.getElem_toArray, List.getElem_cons_zero, List.getElem_cons_succ, Act.put])
  refine wpAnyH_done (by kernel_rfl) ?_ _
  have hS1 := HSD.out.set (sg L m) HC0.out
  have hT1 : Tch (fun k => k = g) w (w.drew.setCells g (0 * 3) (spC (sg L m)).toList) := Tch.setCells (S := fun k => k = g) rfl _ _ _ hH
  obtain ⟨V1, hV1⟩ : ∃ V1, w.drew.setCells g (0 * 3) (spC (sg L m)).toList = V1 := ⟨_, rfl⟩
  rw [hV1] at hS1 hT1
  try rw [hV1]
  have hk1 := HKB.out.tch hT1 HNE.out
  have hb0 : V1.cell? ⟨hb, 0, none⟩ = some (.slice (some ⟨g, 0, none⟩) n c) := (hk1.cell 0).trans rfl
  have SR := store_spots (A := some ⟨g, 0, none⟩) (n := m) (c := c) hb0 (hk1.frozen 0)
  obtain ⟨V2, hV2⟩ : ∃ V2, V1.setCell ⟨hb, 0, none⟩ (.slice (some ⟨g, 0, none⟩) m c) = V2 := ⟨_, rfl⟩
  have hk2 : Blk V2 hb T (.slice (some ⟨g, 0, none⟩) m c :: fvA f :: rest).toArray := by rw [← hV2, ← field0 (v := .slice (some ⟨g, 0, none⟩) n c)]; exact hk1.set_ 0 _
  have hS2 : HeldS V2 g c ((L.set 0 (sg L m)).take m) := by rw [← hV2]; exact (hS1.tch1 ((Tch.refl (fun k => k = hb) V1).setCell rfl 0 _) (fun e => HNE.out e.symm)).take m
  have HT2 : Hid (Tch (foot ⟨hb, T, f, rest, some ⟨g, 0, none⟩, c, L⟩) w V2) := by
    show Tch _ _ _
    rw [← hV2]
    exact (hT1.mono (S' := foot ⟨hb, T, f, rest, some ⟨g, 0, none⟩, c, L⟩) (fun k _ e => .inr (by show some _ = some _; rw [e]))).setCell (.inl rfl) 0 _
  rw [hV2] at SR
  have hst := DnI.start HHP.out (by rw [HLN.out]; exact HM.out.1)
  rw [HLN.out, show n - 1 = m by have := HM.out; omega] at hst
  have hlm : ((L.set 0 (sg L m)).take m).length = m := by rw [List.length_take, List.length_set, HLN.out]; have := HMN.out; omega
  have HDN := Lib.hid (hp_down HHF.out HOO.out V2 hk2 rfl rfl HNE.out hS2 hlm (by have h1 := HN.out; have h2 := HMN.out; omega) (by have h1 := HN.out; have h2 := HMN.out; omega) hst)
  have HK2 := Lib.hid hk2
  have HLM := Lib.hid hlm
  have t1 : ((m : Nat) : Int) ≤ ((c : Nat) : Int) := by have h1 := HN.out; have h2 := HMN.out; omega
  have t2 : m ≤ c := by have h1 := HN.out; have h2 := HMN.out; omega
  clear hS1 hT1 hV1 hk1 hV2 hk2 hS2 hst hlm
  go_wp2_with (first | refine wpList_storeE SR _ _ rfl rfl rfl rfl ?_ | (go_at_call 46; (with_reducible refine HDN.out.mono ?_); rintro e V3 ⟨rfl, L', hpm, hhp, hhe, hte⟩; replace hpm := Lib.hid hpm; replace hhp := Lib.hid hhp; replace hhe := Lib.hid hhe; replace hte := Lib.hid hte))
  go_end0
  have hl' : L'.length = m := by rw [hpm.out.length_eq, HLM.out]
  refine ⟨rfl, L', .of_held (g := g) ?_ rfl HNE.out hhe.out ?_ HN.out.2.2, ?_, hhp.out, HT2.out.trans hte.out (fun k q => .inl (.inr (by show some _ = some _; rw [q])))⟩
  · show Blk V3 hb T (.slice (some ⟨g, 0, none⟩) L'.length c :: fvA f :: rest).toArray
    rw [hl']
    exact HK2.out.tch hte.out HNE.out
  · show L'.length ≤ c
    rw [hl']
    exact t2
  · have h1 := pop_perm (L := L) (by rw [HLN.out]; exact HM.out.1)
    rw [HLN.out, show n - 1 = m by have := HM.out; omega] at h1
    exact (List.Perm.cons _ hpm.out).trans h1
end Go.Proofs.Ytpcbfoddlpgdjaa
