/- What workers are seen to do: Read. Printed by genRcH.py. -/
import Derived.Test.YtoodifpkconfcaaRcG
namespace Go.Proofs.Ytoodifpkconfcaa
open Go.RowKit Go.Maps Go.ChangeMaps Go.MapKept
theorem load_mapIR {w : World} {b o b' : Nat} (h : w.cell? ⟨b, o, none⟩ = some (.map (some b'))) : (Instr.loadAt 57 (.pointer (some ⟨b, o, none⟩))).run Try.prog w = .ok (.map (some b')) w := by
  simp [go_sem, h]
theorem note_load {w : World} {r : NtR} (h : Blk w r.b 59 (ntC r)) : (Instr.loadAt 56 (.pointer (some ⟨r.b, 0, none⟩))).run Try.prog w = .ok (.agg (noC r.ww r.wt)) w :=
  row_load_mid h 0 (noC r.ww r.wt) rfl Try.underlying56 rfl noteTN
set_option maxRecDepth 100000 in
set_option maxHeartbeats 8000000 in
theorem rc_read {w : World} {F : Nat → Prop} {xb sy da : Nat} {ck : Nat → List Int} {fs : Int → Option (List Int)} {nt : Int → Option NtR} {sl : Value} {m N : Nat} (S : RcS w F xb sy da ck fs nt sl m N) (hN : N + 2 ≤ 1048576) (hm : m ≤ 1048576) (u : Nat) (hu : u < 65) (p : Int) (hp : (Lit.int .i64 p).wf = true) (hb : 0 ≤ ig (ck u) u ∧ ig (ck u) u ≤ 1048576) :
    Calls Try.prog 13 #[.pointer (some ⟨xb, 0, none⟩), .int .i64 ((u : Nat) : Int), .int .i64 p] w (fun e w' => ∃ F' sl' r, ∃ kn : Bool, e = .returned (.bool kn) ∧ (nt p = some r ∨ (nt p = none ∧ r.wr = false ∧ r.rs = fun _ => none)) ∧ kn = (!r.wr || knC (ck u) u r.ww r.wt) ∧ RcS w' F' xb sy da ck fs (upO nt p ⟨r.b, r.rb, r.ww, r.wt, r.wr, upO r.rs (u : Int) (ig (ck u) u)⟩) sl' (if kn = true then m else m + 1) (N + 2) ∧ Tch F w w' ∧ (∀ x, F' x → F x ∨ w.heap.size ≤ x)) := by
  have HU := Lib.hid hu
  have HP := Lib.hid hp
  have HBD := Lib.hid hb
  have HNN := Lib.hid hN
  have HM := Lib.hid hm
  have HAT := Lib.hid (rc_at S (by omega) p hp)
  clear S hu hp hb hN hm
  go_enter Try.func13, Try.ntmps13
  go_upto_region 4 with (first
    | (go_at_call 22; (with_reducible refine (rc_has xb u HU.out w).mono ?_); rintro e w' ⟨rfl, rfl⟩)
    | (go_at_call 26; (with_reducible refine HAT.out.mono ?_); rintro e w1 ⟨F1, r, rfl, hor, hS1, hT1, hF1⟩; have HOR := Lib.hid hor; have HS1 := Lib.hid hS1; have HT1 := Lib.hid hT1; have HF1 := Lib.hid hF1; clear hor hS1 hT1 hF1))
  obtain ⟨n1, hn1⟩ : ∃ q, upO nt p r = q := ⟨_, rfl⟩
  have hn1p : n1 p = some r := by rw [← hn1]; exact upO_self _ _ _
  rw [hn1] at HS1
  have HN1 := Lib.hid hn1
  have HR1 := Lib.hid hn1p
  clear hn1 hn1p
  obtain ⟨kn, hkn⟩ : ∃ q, (!r.wr || knC (ck u) u r.ww r.wt) = q := ⟨_, rfl⟩
  have HKN := Lib.hid hkn
  clear hkn
  go_cut [8] from 16 to 31 (fun s8 wx => ∃ F' sl', s8 = .bool kn ∧ Hid (RcS wx F' xb sy da ck fs n1 sl' (if kn = true then m else m + 1) (N + 1)) ∧ Hid (Tch F w wx) ∧ Hid (∀ x, F' x → F x ∨ w.heap.size ≤ x))
  case first =>
    have hB := (HS1.out.n p r HR1.out).1
    have c2 : w1.cell? ⟨r.b, 2, none⟩ = some (.bool r.wr) := hB.cell 2
    obtain ⟨wr0, hwr0⟩ : ∃ q, r.wr = q := ⟨_, rfl⟩
    rw [hwr0] at c2
    have HWR := Lib.hid hwr0
    have c0 : w1.cell? ⟨r.b, 0, none⟩ = some (.int .i64 (r.ww : Int)) := hB.cell 0
    have c1 : w1.cell? ⟨r.b, 1, none⟩ = some (.int .i64 r.wt) := hB.cell 1
    clear hB hwr0
    cases wr0
    case false =>
      have hk : kn = true := by rw [← HKN.out, HWR.out]; rfl
      subst hk
      go_wp2_with fail
      go_meet
      exact ⟨F1, sl, rfl, HS1, HT1, HF1⟩
    case true =>
      have hk : knC (ck u) u r.ww r.wt = kn := by rw [← HKN.out, HWR.out]; rfl
      have hC := rc_check HS1.out u HU.out r.ww (HS1.out.nb p r HR1.out).1 r.wt true p false HM.out
      rw [hk] at hC
      have HC := Lib.hid hC
      unfold noC acC at HC
      clear hC hk
      go_wp2_with (go_at_call 27; (with_reducible refine HC.out.mono ?_); rintro e w2 ⟨F2, sl2, rfl, hS2, hT2, hF2⟩; have HS2 := Lib.hid hS2; have HT2 := Lib.hid hT2; have HF2 := Lib.hid hF2; clear hS2 hT2 hF2)
      have HTT : Hid (Tch F w w2) := HT1.out.trans HT2.out (fun x hx => HF1.out x hx)
      have HFF : Hid (∀ x, F2 x → F x ∨ w.heap.size ≤ x) := fun x hx => by
        rcases HF2.out x hx with h | h
        · exact HF1.out x h
        · exact .inr (Nat.le_trans HT1.out.size h)
      go_meet
      exact ⟨F2, sl2, rfl, HS2, HTT, HFF⟩
  case rest =>
  obtain ⟨F2, sl2, rfl, HS2, HT2, HF2⟩ := hcut
  obtain ⟨W, hW⟩ : ∃ q, wc = q := ⟨_, rfl⟩
  rw [hW] at HS2 HT2 ⊢
  clear hW HS1 HT1 HF1 HAT
  go_upto_region 5 with fail
  refine wp_region_held_drew (S := fun X => X.cell? ⟨r.b, 3, none⟩ = some (.map (some r.rb)) ∧ X.cell? ⟨xb, u * 65 + u, none⟩ = some (.int .i64 (ig (ck u) u))) (by kernel_rfl) ⟨(HS2.out.n p r HR1.out).1.cell 3, HS2.out.at_ HU.out HU.out⟩ (fun hH => ?_)
  refine wpAnyH_take (i := 0) (v := .pointer (some ⟨r.b, 0, none⟩)) rfl (by kernel_rfl) (by kernel_rfl) (by kernel_rfl) (fun _ _ _ h => h) (.inl ⟨by rfl, fun _ _ => by kernel_rfl⟩) hH ?_
  (try simp only [List.getElem_toArray, List.getElem_cons_zero, Act.put, List.setIfInBounds_toArray, List.set_cons_zero, List.set_cons_succ])
  refine wpAnyH_take (i := 1) (v := .pointer (some ⟨r.b, 0, none⟩)) rfl (by kernel_rfl) (by kernel_rfl) (by kernel_rfl) (fun _ _ _ h => h) (.inl ⟨by rfl, fun _ _ => by kernel_rfl⟩) hH ?_
  (try simp only [List.getElem_toArray, List.getElem_cons_zero, List.getElem_cons_succ, Act.put, List.setIfInBounds_toArray, List.set_cons_zero, List.set_cons_succ])
  refine wpAnyH_take (i := 2) (v := .pointer (some ⟨r.b, 3, none⟩)) rfl (by kernel_rfl) (by kernel_rfl) (by kernel_rfl) (fun _ _ _ h => h) (.inl ⟨by rfl, fun _ _ => by kernel_rfl⟩) hH ?_
  (try simp only [List.getElem_toArray, List.getElem_cons_zero, List.getElem_cons_succ, Act.put, List.setIfInBounds_toArray, List.set_cons_zero, List.set_cons_succ])
  refine wpAnyH_take (i := 3) (v := .map (some r.rb)) rfl (by kernel_rfl) (by kernel_rfl) (by kernel_rfl) (fun _ _ _ h => h) (yieldsIf_loadP (by rfl) _ rfl rfl (fun _ q => load_mapIR q.1)) hH ?_
  (try simp only [List.getElem_toArray, List.getElem_cons_zero, List.getElem_cons_succ, Act.put, List.setIfInBounds_toArray, List.set_cons_zero, List.set_cons_succ])
  refine wpAnyH_take (i := 4) (v := .int .i64 ((u : Nat) : Int)) rfl (by kernel_rfl) (by kernel_rfl) (by kernel_rfl) (fun _ _ _ h => h) (.inl ⟨by rfl, fun _ _ => by kernel_rfl⟩) hH ?_
  (try simp only [List.getElem_toArray, List.getElem_cons_zero, List.getElem_cons_succ, Act.put, List.setIfInBounds_toArray, List.set_cons_zero, List.set_cons_succ])
  refine wpAnyH_take (i := 5) (v := .pointer (some ⟨xb, 0, none⟩)) rfl (by kernel_rfl) (by kernel_rfl) (by kernel_rfl) (fun _ _ _ h => h) (.inl ⟨by rfl, fun _ _ => by kernel_rfl⟩) hH ?_
  (try simp only [List.getElem_toArray, List.getElem_cons_zero, List.getElem_cons_succ, Act.put, List.setIfInBounds_toArray, List.set_cons_zero, List.set_cons_succ])
  refine wpAnyH_take (i := 6) (v := .int .i64 ((u : Nat) : Int)) rfl (by kernel_rfl) (by kernel_rfl) (by kernel_rfl) (fun _ _ _ h => h) (.inl ⟨by rfl, fun _ _ => by kernel_rfl⟩) hH ?_
  (try simp only [List.getElem_toArray, List.getElem_cons_zero, List.getElem_cons_succ, Act.put, List.setIfInBounds_toArray, List.set_cons_zero, List.set_cons_succ])
  refine wpAnyH_take (i := 7) (v := .int .i64 ((u : Nat) : Int)) rfl (by kernel_rfl) (by kernel_rfl) (by kernel_rfl) (fun _ _ _ h => h) (.inl ⟨by rfl, fun _ _ => by kernel_rfl⟩) hH ?_
  (try simp only [List.getElem_toArray, List.getElem_cons_zero, List.getElem_cons_succ, Act.put, List.setIfInBounds_toArray, List.set_cons_zero, List.set_cons_succ])
  refine wpAnyH_take (i := 8) (v := .pointer (some ⟨xb, 0, none⟩)) rfl (by kernel_rfl) (by kernel_rfl) (by kernel_rfl) (fun _ _ _ h => h) (.inl ⟨by rfl, fun _ _ => by kernel_rfl⟩) hH ?_
  (try simp only [List.getElem_toArray, List.getElem_cons_zero, List.getElem_cons_succ, Act.put, List.setIfInBounds_toArray, List.set_cons_zero, List.set_cons_succ])
  refine wpAnyH_take (i := 9) (v := .pointer (some ⟨xb, 0, none⟩)) rfl (by kernel_rfl) (by kernel_rfl) (by kernel_rfl) (fun _ _ _ h => h) (.inl ⟨by rfl, fun _ _ => by kernel_rfl⟩) hH ?_
  (try simp only [List.getElem_toArray, List.getElem_cons_zero, List.getElem_cons_succ, Act.put, List.setIfInBounds_toArray, List.set_cons_zero, List.set_cons_succ])
  refine wpAnyH_take (i := 10) (v := .pointer (some ⟨xb, u * 65, none⟩)) rfl (by kernel_rfl) (by kernel_rfl) (by kernel_rfl) (fun _ _ _ h => h) (yieldsIf_indexA (by rfl) _ _ rfl rfl rfl HU.out) hH ?_
  (try simp only [List.getElem_toArray, List.getElem_cons_zero, List.getElem_cons_succ, Act.put, List.setIfInBounds_toArray, List.set_cons_zero, List.set_cons_succ])
  refine wpAnyH_take (i := 11) (v := .pointer (some ⟨xb, u * 65 + u, none⟩)) rfl (by kernel_rfl) (by kernel_rfl) (by kernel_rfl) (fun _ _ _ h => h) (yieldsIf_indexB (by rfl) _ _ rfl rfl rfl HU.out) hH ?_
  (try simp only [List.getElem_toArray, List.getElem_cons_zero, List.getElem_cons_succ, Act.put, List.setIfInBounds_toArray, List.set_cons_zero, List.set_cons_succ])
  refine wpAnyH_take (i := 12) (v := .int .i64 (ig (ck u) u)) rfl (by kernel_rfl) (by kernel_rfl) (by kernel_rfl) (fun _ _ _ h => h) (yieldsIf_loadP (by rfl) _ rfl rfl (fun _ q => load_i64R q.2)) hH ?_
  (try simp only [List.getElem_toArray, List.getElem_cons_zero, List.getElem_cons_succ, Act.put, List.setIfInBounds_toArray, List.set_cons_zero, List.set_cons_succ])
  have HS3 := Lib.hid (HS2.out.below (below_drewN (Below.refl _ W) 1))
  have hwf : (Lit.int .i64 (ig (ck u) u)).wf = true := by have := HBD.out; simp [Lit.wf, IntKind.min, IntKind.max, IntKind.signed, IntKind.bits]; omega
  obtain ⟨V, hrun, hS4, hT4, hT5⟩ := HS3.out.setRead (by have := HNN.out; omega) HR1.out u HU.out (ig (ck u) u) hwf
  have hHV : V.cell? ⟨r.b, 3, none⟩ = some (.map (some r.rb)) ∧ V.cell? ⟨xb, u * 65 + u, none⟩ = some (.int .i64 (ig (ck u) u)) := ⟨(hS4.n p _ (upO_self _ _ _)).1.cell 3, hS4.at_ HU.out HU.out⟩
  have HS4 := Lib.hid hS4
  have HT4 : Hid (Tch F2 W V) := hT4.und
  clear hS4 hT4 hT5 hwf
  refine wpAnyH_updR 13 _ _ _ _ (by kernel_rfl) (by rfl) (by kernel_rfl) (by rfl) (by rfl) (by rfl) (by rfl) hrun hHV ?_
  (try simp only [List.getElem_toArray, List.getElem_cons_zero, List.getElem_cons_succ, Act.put])
  refine wpAnyH_done (by kernel_rfl) ?_ _
  clear hrun hHV hH HS3
  have HKK : Hid (kn = (!r.wr || knC (ck u) u r.ww r.wt)) := HKN.out.symm
  have hS5 := HS4.out
  rw [← HN1.out, upO_upO] at hS5
  have HS5 := Lib.hid hS5
  clear hS5
  go_wp2_with fail
  go_ret
  exact ⟨F2, sl2, r, kn, rfl, HOR.out, HKK.out, HS5.out, HT2.out.trans HT4.out (fun x hx => HF2.out x hx), HF2.out⟩
end Go.Proofs.Ytoodifpkconfcaa
