/- What workers are seen to do: Write. Printed by genRcI.py. -/
import Derived.Test.YtoodifpkconfcaaRcH
import Derived.Test.YtoodifpkconfcaaItS
namespace Go.Proofs.Ytoodifpkconfcaa
open Go.RowKit Go.Maps Go.ChangeMaps Go.MapKept
theorem acc_put (W : World) (u : Nat) (p : Int) (b : Bool) : (Instr.storeAt 62 (.pointer (some ⟨W.heap.size, 0, none⟩)) (.agg (acC u p b))).run Try.prog (W.alloc (.cells #[.int .i64 0, .int .i64 0, .bool false] 62)) = .ok () ((W.alloc (.cells #[.int .i64 0, .int .i64 0, .bool false] 62)).setCells W.heap.size 0 (acC u p b).toList) :=
  row_store (Blk.new W 62 #[.int .i64 0, .int .i64 0, .bool false]) (acC u p b) rfl accTN (by simp [acC, Value.oneCell'])
theorem acc_blk (W : World) (u : Nat) (p : Int) (b : Bool) : Blk ((W.alloc (.cells #[.int .i64 0, .int .i64 0, .bool false] 62)).setCells W.heap.size 0 (acC u p b).toList) W.heap.size 62 (acC u p b) := (Blk.new W 62 #[.int .i64 0, .int .i64 0, .bool false]).put _ rfl
theorem acc_bel (W : World) (u : Nat) (p : Int) (b : Bool) : Below W.heap.size W ((W.alloc (.cells #[.int .i64 0, .int .i64 0, .bool false] 62)).setCells W.heap.size 0 (acC u p b).toList) :=
  (Tch.setCells (S := fun k => k = W.heap.size) rfl _ 0 (W.alloc _) ((Tch.refl _ W).alloc _)).below (Nat.le_refl _) (fun _ hk => Nat.le_of_eq hk.symm)
theorem acc_load {w : World} {ab u : Nat} {p : Int} {b : Bool} (h : Blk w ab 62 (acC u p b)) : (Instr.loadAt 62 (.pointer (some ⟨ab, 0, none⟩))).run Try.prog w = .ok (.agg (acC u p b)) w := row_load h Try.underlying62 rfl accTN
theorem load_boolR {w : World} {b o : Nat} {v : Bool} (h : w.cell? ⟨b, o, none⟩ = some (.bool v)) : (Instr.loadAt 4 (.pointer (some ⟨b, o, none⟩))).run Try.prog w = .ok (.bool v) w := by
  simp [go_sem, h]
theorem zeroIR : ∀ w, (zeroValue 3).run Try.prog w = .ok (.int .i64 0) w := by
  have h : (Try.prog.info? 3).map (fun i => (i.zero, i.size)) = some (some (.int .i64 0), 1) := by kernel_rfl
  exact (zero_of_info h).1
/-- Whether an access of a worker is known. -/
def knF (c : List Int) (u : Nat) (rs : Int → Option Int) (k : Int) : Bool := knC c u k.toNat ((rs k).getD 0)
theorem intKeys_len (D : DataW Unit) : (intKeys D).length = Maps.size D := by cases D <;> simp [intKeys, Maps.size]
set_option maxRecDepth 100000 in
theorem rs_look {w : World} {rb n : Nat} {rs : Int → Option Int} (h : ∃ D, w.ownsMap Try.prog 3 (plainElem Try.prog 3) rb n D ∧ KvF itEnc D rs) {k t : Int} (hk : rs k = some t) (hw : (Lit.int .i64 k).wf = true) : (Instr.lookup 57 (.map (some rb)) (.int .i64 k) false).run Try.prog w = .ok (.int .i64 t) w := by
  obtain ⟨D, h1, h2⟩ := h
  obtain ⟨c, hrun, hat, _⟩ := World.ownsMap.lookup_int h1 lawIR Try.underlying57 Try.underlying3 (zeroIR w) (keyOf_int_mk (P := Try.prog) Try.underlying3 hw)
  rw [h2.at_ k t hk] at hat
  injection hat with hat
  injection hat with _ hat
  rw [hat]
  exact hrun
/-- What Write tells, and leaves. -/
def RetWr (w : World) (F : Nat → Prop) (xb sy da : Nat) (ck : Nat → List Int) (fs : Int → Option (List Int)) (nt : Int → Option NtR) (m N u : Nat) (p : Int) (e : Ending) (w' : World) : Prop :=
  ∃ F' sl' r, ∃ (kn : Bool) (ks : List Int), e = .returned (.bool kn) ∧ (nt p = some r ∨ (nt p = none ∧ r.wr = false ∧ r.rs = fun _ => none)) ∧ (∀ k ∈ ks, (r.rs k).isSome = true ∧ 0 ≤ k ∧ k < 65) ∧ kn = ((!r.wr || knC (ck u) u r.ww r.wt) && ks.all (knF (ck u) u r.rs)) ∧ RcS w' F' xb sy da ck fs (upO nt p ⟨r.b, r.rb, u, ig (ck u) u, true, fun _ => none⟩) sl' (if kn = true then m else m + 1) (N + 1) ∧ Tch F w w' ∧ (∀ x, F' x → F x ∨ w.heap.size ≤ x)
/-- Write, under way. -/
structure WrS (w0 w : World) (F0 F : Nat → Prop) (xb sy da : Nat) (ck : Nat → List Int) (fs : Int → Option (List Int)) (nt : Int → Option NtR) (sl : Value) (m N ab u : Nat) (p : Int) : Prop where
  s : RcS w F xb sy da ck fs nt sl m N
  t : Tch F0 w0 w
  f : ∀ x, F x → F0 x ∨ w0.heap.size ≤ x
  a : Blk w ab 62 (acC u p true)
  na : ¬ F ab
theorem WrS.below {w0 w w' : World} {F0 F : Nat → Prop} {xb sy da : Nat} {ck : Nat → List Int} {fs : Int → Option (List Int)} {nt : Int → Option NtR} {sl : Value} {m N ab u : Nat} {p : Int} (S : WrS w0 w F0 F xb sy da ck fs nt sl m N ab u p) (hb : Below w.heap.size w w') : WrS w0 w' F0 F xb sy da ck fs nt sl m N ab u p :=
  ⟨S.s.below hb, S.t.trans (Tch.of_below (S := F0) hb) (fun _ h => .inl h), S.f, S.a.below hb S.a.lt, S.na⟩
theorem WrS.next {w0 w w' : World} {F0 F F' : Nat → Prop} {xb sy da : Nat} {ck : Nat → List Int} {fs : Int → Option (List Int)} {nt : Int → Option NtR} {sl sl' : Value} {m m' N ab u : Nat} {p : Int} (S : WrS w0 w F0 F xb sy da ck fs nt sl m N ab u p) (hS : RcS w' F' xb sy da ck fs nt sl' m' N) (hT : Tch F w w') (hF : ∀ x, F' x → F x ∨ w.heap.size ≤ x) : WrS w0 w' F0 F' xb sy da ck fs nt sl' m' N ab u p :=
  ⟨hS, S.t.trans hT (fun x hx => S.f x hx), fun x hx => by
    rcases hF x hx with h | h
    · exact S.f x h
    · exact .inr (Nat.le_trans S.t.size h), S.a.tch hT S.na, fun q => by
    rcases hF _ q with h | h
    · exact S.na h
    · exact absurd S.a.lt (by omega)⟩
set_option maxRecDepth 100000 in
set_option maxHeartbeats 8000000 in
theorem rc_write {w : World} {F : Nat → Prop} {xb sy da : Nat} {ck : Nat → List Int} {fs : Int → Option (List Int)} {nt : Int → Option NtR} {sl : Value} {m N : Nat} (S : RcS w F xb sy da ck fs nt sl m N) (hN : N + 2 ≤ 1048576) (hm : m + 1 ≤ 1048576) (u : Nat) (hu : u < 65) (p : Int) (hp : (Lit.int .i64 p).wf = true) :
    Calls Try.prog 14 #[.pointer (some ⟨xb, 0, none⟩), .int .i64 ((u : Nat) : Int), .int .i64 p] w (RetWr w F xb sy da ck fs nt m N u p) := by
  have HU := Lib.hid hu
  have HP := Lib.hid hp
  have HNN := Lib.hid hN
  have HM := Lib.hid hm
  have HAT := Lib.hid (rc_at S (by omega) p hp)
  clear S hu hp hN hm
  go_enter Try.func14, Try.ntmps14
  go_upto_region 4 with (first
    | (go_at_call 22; (with_reducible refine (rc_has xb u HU.out w).mono ?_); rintro e w' ⟨rfl, rfl⟩)
    | (go_at_call 26; (with_reducible refine HAT.out.mono ?_); rintro e w1 ⟨F1, r, rfl, hor, hS1, hT1, hF1⟩; have HOR := Lib.hid hor; have HS1 := Lib.hid hS1; have HT1 := Lib.hid hT1; have HF1 := Lib.hid hF1; clear hor hS1 hT1 hF1))
  obtain ⟨n1, hn1⟩ : ∃ q, upO nt p r = q := ⟨_, rfl⟩
  have hn1p : n1 p = some r := by rw [← hn1]; exact upO_self _ _ _
  rw [hn1] at HS1
  have HN1 := Lib.hid hn1
  have HR1 := Lib.hid hn1p
  clear hn1 hn1p
  have SG := acc_put w1 u p true
  have bG := acc_bel w1 u p true
  have kG := acc_blk w1 u p true
  obtain ⟨w2, hw2⟩ : ∃ q, (w1.alloc (.cells #[.int .i64 0, .int .i64 0, .bool false] 62)).setCells w1.heap.size 0 (acC u p true).toList = q := ⟨_, rfl⟩
  rw [hw2] at SG bG kG
  have HW : Hid (WrS w w2 F F1 xb sy da ck fs n1 sl m (N + 1) w1.heap.size u p) := ⟨HS1.out.below bG, HT1.out.trans (Tch.of_below (S := F) bG) (fun _ h => .inl h), HF1.out, kG, fun q => Nat.lt_irrefl _ (HS1.out.ltF _ q)⟩
  unfold acC at SG
  clear bG kG hw2 HS1 HT1 HF1 HAT
  go_upto_region 5 with (refine wpList_storeE SG _ _ rfl rfl rfl rfl ?_)
  clear SG
  obtain ⟨k0, hk0⟩ : ∃ q, (!r.wr || knC (ck u) u r.ww r.wt) = q := ⟨_, rfl⟩
  have HK0 := Lib.hid hk0
  clear hk0
  (try go_frame)
  go_cut [9] from 22 to 35 (fun s9 wx => ∃ F' sl', s9 = .bool k0 ∧ Hid (WrS w wx F F' xb sy da ck fs n1 sl' (if k0 = true then m else m + 1) (N + 1) w1.heap.size u p))
  case first =>
    have hB := (HW.out.s.n p r HR1.out).1
    obtain ⟨wr0, hwr0⟩ : ∃ q, r.wr = q := ⟨_, rfl⟩
    have HWR := Lib.hid hwr0
    have HBB := Lib.hid hB
    clear hB hwr0
    refine wp_region_held_drew (S := fun X => Blk X r.b 59 (ntC r) ∧ Blk X w1.heap.size 62 (acC u p true)) (by kernel_rfl) ⟨HBB.out, HW.out.a⟩ (fun hH => ?_)
    have HW0 := Lib.hid (HW.out.below (below_drewN (Below.refl _ w2) 1))
    obtain ⟨w3, hw3⟩ : ∃ q, w2.drew = q := ⟨_, rfl⟩
    have HW0 : Hid (WrS w w3 F F1 xb sy da ck fs n1 sl m (N + 1) w1.heap.size u p) := by show WrS _ _ _ _ _ _ _ _ _ _ _ _ _ _ _ _; rw [← hw3]; exact HW0.out
    rw [hw3] at hH ⊢
    clear hw3
    cases wr0
    case false =>
      have hk : k0 = true := by rw [← HK0.out, HWR.out]; rfl
      subst hk
      refine wpAnyH_take (i := 0) (v := .pointer (some ⟨r.b, 0, none⟩)) rfl (by kernel_rfl) (by kernel_rfl) (by kernel_rfl) (fun _ _ _ h => h) (.inl ⟨by rfl, fun _ _ => by kernel_rfl⟩) hH ?_
      (try simp only [List.getElem_toArray, List.getElem_cons_zero, Act.put, List.setIfInBounds_toArray, List.set_cons_zero, List.set_cons_succ])
      refine wpAnyH_take (i := 1) (v := .pointer (some ⟨r.b, 0, none⟩)) rfl (by kernel_rfl) (by kernel_rfl) (by kernel_rfl) (fun _ _ _ h => h) (.inl ⟨by rfl, fun _ _ => by kernel_rfl⟩) hH ?_
      (try simp only [List.getElem_toArray, List.getElem_cons_zero, List.getElem_cons_succ, Act.put, List.setIfInBounds_toArray, List.set_cons_zero, List.set_cons_succ])
      refine wpAnyH_take (i := 2) (v := .pointer (some ⟨r.b, 2, none⟩)) rfl (by kernel_rfl) (by kernel_rfl) (by kernel_rfl) (fun _ _ _ h => h) (.inl ⟨by rfl, fun _ _ => by kernel_rfl⟩) hH ?_
      (try simp only [List.getElem_toArray, List.getElem_cons_zero, List.getElem_cons_succ, Act.put, List.setIfInBounds_toArray, List.set_cons_zero, List.set_cons_succ])
      refine wpAnyH_take (i := 3) (v := .bool false) rfl (by kernel_rfl) (by kernel_rfl) (by kernel_rfl) (fun _ _ _ h => h) (yieldsIf_loadP (by rfl) _ rfl rfl (fun _ q => load_boolR (by have h := q.1.cell 2; rw [show (ntC r)[2]? = some (.bool r.wr) from rfl, HWR.out] at h; exact h))) hH ?_
      (try simp only [List.getElem_toArray, List.getElem_cons_zero, List.getElem_cons_succ, Act.put, List.setIfInBounds_toArray, List.set_cons_zero, List.set_cons_succ])
      refine wpAnyH_take (i := 4) (v := .bool true) rfl (by kernel_rfl) (by kernel_rfl) (by kernel_rfl) (fun _ _ _ h => h) (.inl ⟨by rfl, fun _ _ => by kernel_rfl⟩) hH ?_
      (try simp only [List.getElem_toArray, List.getElem_cons_zero, List.getElem_cons_succ, Act.put, List.setIfInBounds_toArray, List.set_cons_zero, List.set_cons_succ])
      refine wpAnyH_take (i := 5) (v := .bool true) rfl (by kernel_rfl) (by kernel_rfl) (by kernel_rfl) (fun _ _ _ h => h) (.inl ⟨by rfl, fun _ _ => by kernel_rfl⟩) hH ?_
      (try simp only [List.getElem_toArray, List.getElem_cons_zero, List.getElem_cons_succ, Act.put, List.setIfInBounds_toArray, List.set_cons_zero, List.set_cons_succ])
      refine wpAnyH_take (i := 6) (v := undef) rfl (by kernel_rfl) (by kernel_rfl) (by kernel_rfl) (fun _ _ _ h => h) (.inr ⟨by rfl, rfl⟩) hH ?_
      (try simp only [List.getElem_toArray, List.getElem_cons_zero, List.getElem_cons_succ, Act.put, List.setIfInBounds_toArray, List.set_cons_zero, List.set_cons_succ])
      refine wpAnyH_take (i := 7) (v := undef) rfl (by kernel_rfl) (by kernel_rfl) (by kernel_rfl) (fun _ _ _ h => h) (.inr ⟨by rfl, rfl⟩) hH ?_
      (try simp only [List.getElem_toArray, List.getElem_cons_zero, List.getElem_cons_succ, Act.put, List.setIfInBounds_toArray, List.set_cons_zero, List.set_cons_succ])
      refine wpAnyH_take (i := 8) (v := undef) rfl (by kernel_rfl) (by kernel_rfl) (by kernel_rfl) (fun _ _ _ h => h) (.inr ⟨by rfl, rfl⟩) hH ?_
      (try simp only [List.getElem_toArray, List.getElem_cons_zero, List.getElem_cons_succ, Act.put, List.setIfInBounds_toArray, List.set_cons_zero, List.set_cons_succ])
      refine wpAnyH_take (i := 9) (v := undef) rfl (by kernel_rfl) (by kernel_rfl) (by kernel_rfl) (fun _ _ _ h => h) (.inr ⟨by rfl, rfl⟩) hH ?_
      (try simp only [List.getElem_toArray, List.getElem_cons_zero, List.getElem_cons_succ, Act.put, List.setIfInBounds_toArray, List.set_cons_zero, List.set_cons_succ])
      refine wpAnyH_take (i := 10) (v := undef) rfl (by kernel_rfl) (by kernel_rfl) (by kernel_rfl) (fun _ _ _ h => h) (.inr ⟨by rfl, rfl⟩) hH ?_
      (try simp only [List.getElem_toArray, List.getElem_cons_zero, List.getElem_cons_succ, Act.put, List.setIfInBounds_toArray, List.set_cons_zero, List.set_cons_succ])
      refine wpAnyH_take (i := 11) (v := undef) rfl (by kernel_rfl) (by kernel_rfl) (by kernel_rfl) (fun _ _ _ h => h) (.inr ⟨by rfl, rfl⟩) hH ?_
      (try simp only [List.getElem_toArray, List.getElem_cons_zero, List.getElem_cons_succ, Act.put, List.setIfInBounds_toArray, List.set_cons_zero, List.set_cons_succ])
      refine wpAnyH_take (i := 12) (v := undef) rfl (by kernel_rfl) (by kernel_rfl) (by kernel_rfl) (fun _ _ _ h => h) (.inr ⟨by rfl, rfl⟩) hH ?_
      (try simp only [List.getElem_toArray, List.getElem_cons_zero, List.getElem_cons_succ, Act.put, List.setIfInBounds_toArray, List.set_cons_zero, List.set_cons_succ])
      refine wpAnyH_take (i := 13) (v := .bool true) rfl (by kernel_rfl) (by kernel_rfl) (by kernel_rfl) (fun _ _ _ h => h) (.inl ⟨by rfl, fun _ _ => by kernel_rfl⟩) hH ?_
      (try simp only [List.getElem_toArray, List.getElem_cons_zero, List.getElem_cons_succ, Act.put, List.setIfInBounds_toArray, List.set_cons_zero, List.set_cons_succ])
      refine wpAnyH_take (i := 14) (v := .bool true) rfl (by kernel_rfl) (by kernel_rfl) (by kernel_rfl) (fun _ _ _ h => h) (.inl ⟨by rfl, fun _ _ => by kernel_rfl⟩) hH ?_
      (try simp only [List.getElem_toArray, List.getElem_cons_zero, List.getElem_cons_succ, Act.put, List.setIfInBounds_toArray, List.set_cons_zero, List.set_cons_succ])
      refine wpAnyH_done (by kernel_rfl) ?_ _
      clear hH
      go_wp2_with fail
      go_meet
      exact ⟨F1, sl, rfl, HW0⟩
    case true =>
      have hk : knC (ck u) u r.ww r.wt = k0 := by rw [← HK0.out, HWR.out]; rfl
      refine wpAnyH_take (i := 0) (v := .pointer (some ⟨r.b, 0, none⟩)) rfl (by kernel_rfl) (by kernel_rfl) (by kernel_rfl) (fun _ _ _ h => h) (.inl ⟨by rfl, fun _ _ => by kernel_rfl⟩) hH ?_
      (try simp only [List.getElem_toArray, List.getElem_cons_zero, Act.put, List.setIfInBounds_toArray, List.set_cons_zero, List.set_cons_succ])
      refine wpAnyH_take (i := 1) (v := .pointer (some ⟨r.b, 0, none⟩)) rfl (by kernel_rfl) (by kernel_rfl) (by kernel_rfl) (fun _ _ _ h => h) (.inl ⟨by rfl, fun _ _ => by kernel_rfl⟩) hH ?_
      (try simp only [List.getElem_toArray, List.getElem_cons_zero, List.getElem_cons_succ, Act.put, List.setIfInBounds_toArray, List.set_cons_zero, List.set_cons_succ])
      refine wpAnyH_take (i := 2) (v := .pointer (some ⟨r.b, 2, none⟩)) rfl (by kernel_rfl) (by kernel_rfl) (by kernel_rfl) (fun _ _ _ h => h) (.inl ⟨by rfl, fun _ _ => by kernel_rfl⟩) hH ?_
      (try simp only [List.getElem_toArray, List.getElem_cons_zero, List.getElem_cons_succ, Act.put, List.setIfInBounds_toArray, List.set_cons_zero, List.set_cons_succ])
      refine wpAnyH_take (i := 3) (v := .bool true) rfl (by kernel_rfl) (by kernel_rfl) (by kernel_rfl) (fun _ _ _ h => h) (yieldsIf_loadP (by rfl) _ rfl rfl (fun _ q => load_boolR (by have h := q.1.cell 2; rw [show (ntC r)[2]? = some (.bool r.wr) from rfl, HWR.out] at h; exact h))) hH ?_
      (try simp only [List.getElem_toArray, List.getElem_cons_zero, List.getElem_cons_succ, Act.put, List.setIfInBounds_toArray, List.set_cons_zero, List.set_cons_succ])
      refine wpAnyH_take (i := 4) (v := .bool false) rfl (by kernel_rfl) (by kernel_rfl) (by kernel_rfl) (fun _ _ _ h => h) (.inl ⟨by rfl, fun _ _ => by kernel_rfl⟩) hH ?_
      (try simp only [List.getElem_toArray, List.getElem_cons_zero, List.getElem_cons_succ, Act.put, List.setIfInBounds_toArray, List.set_cons_zero, List.set_cons_succ])
      refine wpAnyH_take (i := 5) (v := .bool false) rfl (by kernel_rfl) (by kernel_rfl) (by kernel_rfl) (fun _ _ _ h => h) (.inl ⟨by rfl, fun _ _ => by kernel_rfl⟩) hH ?_
      (try simp only [List.getElem_toArray, List.getElem_cons_zero, List.getElem_cons_succ, Act.put, List.setIfInBounds_toArray, List.set_cons_zero, List.set_cons_succ])
      refine wpAnyH_take (i := 6) (v := .pointer (some ⟨xb, 0, none⟩)) rfl (by kernel_rfl) (by kernel_rfl) (by kernel_rfl) (fun _ _ _ h => h) (.inl ⟨by rfl, fun _ _ => by kernel_rfl⟩) hH ?_
      (try simp only [List.getElem_toArray, List.getElem_cons_zero, List.getElem_cons_succ, Act.put, List.setIfInBounds_toArray, List.set_cons_zero, List.set_cons_succ])
      refine wpAnyH_take (i := 7) (v := .pointer (some ⟨r.b, 0, none⟩)) rfl (by kernel_rfl) (by kernel_rfl) (by kernel_rfl) (fun _ _ _ h => h) (.inl ⟨by rfl, fun _ _ => by kernel_rfl⟩) hH ?_
      (try simp only [List.getElem_toArray, List.getElem_cons_zero, List.getElem_cons_succ, Act.put, List.setIfInBounds_toArray, List.set_cons_zero, List.set_cons_succ])
      refine wpAnyH_take (i := 8) (v := .pointer (some ⟨r.b, 0, none⟩)) rfl (by kernel_rfl) (by kernel_rfl) (by kernel_rfl) (fun _ _ _ h => h) (.inl ⟨by rfl, fun _ _ => by kernel_rfl⟩) hH ?_
      (try simp only [List.getElem_toArray, List.getElem_cons_zero, List.getElem_cons_succ, Act.put, List.setIfInBounds_toArray, List.set_cons_zero, List.set_cons_succ])
      refine wpAnyH_take (i := 9) (v := .pointer (some ⟨r.b, 0, none⟩)) rfl (by kernel_rfl) (by kernel_rfl) (by kernel_rfl) (fun _ _ _ h => h) (.inl ⟨by rfl, fun _ _ => by kernel_rfl⟩) hH ?_
      (try simp only [List.getElem_toArray, List.getElem_cons_zero, List.getElem_cons_succ, Act.put, List.setIfInBounds_toArray, List.set_cons_zero, List.set_cons_succ])
      refine wpAnyH_take (i := 10) (v := .agg (noC r.ww r.wt)) rfl (by kernel_rfl) (by kernel_rfl) (by kernel_rfl) (fun _ _ _ h => h) (yieldsIf_loadP (by rfl) _ rfl rfl (fun _ q => note_load q.1)) hH ?_
      (try simp only [List.getElem_toArray, List.getElem_cons_zero, List.getElem_cons_succ, Act.put, List.setIfInBounds_toArray, List.set_cons_zero, List.set_cons_succ])
      refine wpAnyH_take (i := 11) (v := .agg (acC u p true)) rfl (by kernel_rfl) (by kernel_rfl) (by kernel_rfl) (fun _ _ _ h => h) (yieldsIf_loadP (by rfl) _ rfl rfl (fun _ q => acc_load q.2)) hH ?_
      (try simp only [List.getElem_toArray, List.getElem_cons_zero, List.getElem_cons_succ, Act.put, List.setIfInBounds_toArray, List.set_cons_zero, List.set_cons_succ])
      have hC := rc_check HW0.out.s u HU.out r.ww (HW0.out.s.nb p r HR1.out).1 r.wt true p true (by have := HM.out; omega)
      rw [hk] at hC
      refine wpAnyH_call 12 27 #[.pointer (some ⟨xb, 0, none⟩), .agg (noC r.ww r.wt), .bool true, .agg (acC u p true)] _ (by kernel_rfl) (by rfl) (by kernel_rfl) (by kernel_rfl) hC ?_
      rintro e w4 ⟨F2, sl2, rfl, hS2, hT2, hF2⟩
      have HW2 := Lib.hid (HW0.out.next hS2 hT2 hF2)
      have hH2 : Blk w4 r.b 59 (ntC r) ∧ Blk w4 w1.heap.size 62 (acC u p true) := ⟨(HW2.out.s.n p r HR1.out).1, HW2.out.a⟩
      refine ⟨_, rfl, hH2, ?_⟩
      (try simp only [List.getElem_toArray, List.getElem_cons_zero, List.getElem_cons_succ, Act.put, List.setIfInBounds_toArray, List.set_cons_zero, List.set_cons_succ])
      refine wpAnyH_take (i := 13) (v := .bool k0) rfl (by kernel_rfl) (by kernel_rfl) (by kernel_rfl) (fun _ _ _ h => h) (.inl ⟨by rfl, fun _ _ => by kernel_rfl⟩) hH2 ?_
      (try simp only [List.getElem_toArray, List.getElem_cons_zero, List.getElem_cons_succ, Act.put, List.setIfInBounds_toArray, List.set_cons_zero, List.set_cons_succ])
      refine wpAnyH_take (i := 14) (v := .bool k0) rfl (by kernel_rfl) (by kernel_rfl) (by kernel_rfl) (fun _ _ _ h => h) (.inl ⟨by rfl, fun _ _ => by kernel_rfl⟩) hH2 ?_
      (try simp only [List.getElem_toArray, List.getElem_cons_zero, List.getElem_cons_succ, Act.put, List.setIfInBounds_toArray, List.set_cons_zero, List.set_cons_succ])
      refine wpAnyH_done (by kernel_rfl) ?_ _
      clear hH hH2 hS2 hT2 hF2 hC hk
      go_wp2_with fail
      go_meet
      exact ⟨F2, sl2, rfl, HW2⟩
  case rest =>
  obtain ⟨F2, sl2, rfl, HW2⟩ := hcut
  obtain ⟨W, hW⟩ : ∃ q, wc = q := ⟨_, rfl⟩
  rw [hW] at HW2 ⊢
  clear hW HW
  obtain ⟨D, hD1, hD2⟩ := (HW2.out.s.n p r HR1.out).2
  have c3 : W.cell? ⟨r.b, 3, none⟩ = some (.map (some r.rb)) := (HW2.out.s.n p r HR1.out).1.cell 3
  have HKY := Lib.hid (it_keys (some r.rb) W)
  have HSO := Lib.hid (it_sorted r.rb (N + 1) D _ W hD1 (Nat.le_trans hD1.size_le (by have := HNN.out; omega)))
  have HKS : Hid (∀ k ∈ intKeys D, (r.rs k).isSome = true ∧ 0 ≤ k ∧ k < 65) := fun k hk => by
    have h1 := hD2.ks k hk
    obtain ⟨t, ht⟩ := Option.isSome_iff_exists.1 h1
    exact ⟨h1, (HW2.out.s.nb p r HR1.out).2 k t ht⟩
  have HSZ : Hid ((intKeys D).length ≤ 1048576) := by show _ ≤ _; rw [intKeys_len]; exact Nat.le_trans hD1.size_le (by have := HNN.out; omega)
  clear hD1 hD2
  go_upto_region 7 with (first
    | (go_at_call 29; (with_reducible refine HKY.out.mono ?_); rintro e w' ⟨rfl, rfl⟩)
    | (go_at_call 28; (refine HSO.out.mono ?_); rintro e W4 ⟨v, ss, rfl, hperm, hown, hb4⟩; have HPM := Lib.hid hperm; have HW4 := Lib.hid (HW2.out.below hb4); obtain ⟨kz, hkz⟩ : ∃ q, ss.mergeSort (fun x y => decide (x ≤ y)) = q := ⟨_, rfl⟩; rw [hkz] at hown; have HKZ := Lib.hid hkz; obtain ⟨L, hL⟩ : ∃ L, ss.length = L := ⟨_, rfl⟩; rw [hL] at hown; have HL := Lib.hid hL; obtain ⟨A, c, hv⟩ : ∃ A c, v = Value.slice A L c := (by rcases hown.2 with ⟨e, h0⟩ | ⟨g, cap, cur, e, _⟩; exact ⟨none, 0, by rw [e, h0]⟩; exact ⟨_, _, e⟩); subst hv; have HOW := Lib.hid hown; have HOG : Hid (∀ g, (Value.slice A L c).ownBlock = some g → ¬ F2 g) := (fun g hg q => by have h1 := (hown.lt g hg).1; have h2 := HW2.out.s.ltF g q; omega); have HLT4 := Lib.hid hb4.size; clear hperm hown hb4 hkz hL))
  have HKL : Hid (kz.length = L) := by show _ = _; rw [← HKZ.out, ← HL.out]; exact (List.mergeSort_perm _ _).length_eq
  have HKM : Hid (∀ k ∈ kz, (r.rs k).isSome = true ∧ 0 ≤ k ∧ k < 65) := fun k hk => HKS.out k (HPM.out.mem_iff.1 (by rw [← HKZ.out] at hk; exact (List.mergeSort_perm _ _).mem_iff.1 hk))
  have HLB : Hid (L ≤ 1048576) := by
    show _ ≤ _
    have h1 := HPM.out.length_eq
    rw [HL.out] at h1
    rw [h1]
    exact HSZ.out
  clear HKY HSO c3 HPM HKS HW2
  obtain ⟨ab, hab⟩ : ∃ q, w1.heap.size = q := ⟨_, rfl⟩
  rw [hab] at HW4
  (try rw [hab])
  (try simp only [hab])
  clear hab
  go_loopw [9, 11, 43] (fun s9 _ s43 wx => ∃ (j : Nat) (F' : Nat → Prop) (sl' : Value) (kb : Bool), j ≤ L ∧ s43 = .int .i64 j ∧ s9 = .bool kb ∧ Hid (kb = (k0 && (kz.take j).all (knF (ck u) u r.rs))) ∧ Hid (WrS w wx F F' xb sy da ck fs n1 sl' (if kb = true then m else m + 1) (N + 1) ab u p) ∧ Hid (wx.ownsRow W.heap.size 3 1 (.slice A L c) L (kz.map (.int .i64))) ∧ Hid (∀ g, (Value.slice A L c).ownBlock = some g → ¬ F' g)) (fun _ _ s43 _ => L - (RowKit.intOf s43).toNat)
  case atStart => exact ⟨0, F2, sl2, k0, Nat.zero_le _, rfl, rfl, (show k0 = (k0 && ([] : List Int).all _) by simp), HW4, HOW, HOG⟩
  case round =>
    clear HW4 HOW HOG
    obtain ⟨j, F3, sl3, kb, hj, rfl, rfl, HKB, HW, HOW, HOG⟩ := hrel
    by_cases hlt : j < L
    · have HLT := Lib.hid hlt
      obtain ⟨b1, o1, e1, _, hc1⟩ := (Rd.of_own HOW.out).atI hlt
      subst e1
      obtain ⟨kk, hkk⟩ : ∃ q, ig kz j = q := ⟨_, rfl⟩
      rw [hkk] at hc1
      have hjl : j < kz.length := by rw [HKL.out]; exact hlt
      have hmem : kk ∈ kz := by
        rw [← hkk]
        unfold ig
        rw [List.getD_eq_getElem?_getD, List.getElem?_eq_getElem hjl]
        exact List.getElem_mem hjl
      obtain ⟨hs, hk0', hk65⟩ := HKM.out kk hmem
      obtain ⟨t, ht⟩ := Option.isSome_iff_exists.1 hs
      obtain ⟨x, rfl⟩ : ∃ x : Nat, kk = (x : Int) := ⟨kk.toNat, by omega⟩
      have hx65 : x < 65 := by omega
      have HX := Lib.hid hx65
      obtain ⟨kf, hkf⟩ : ∃ q, knC (ck u) u x t = q := ⟨_, rfl⟩
      have HKF := Lib.hid hkf
      have HNX : Hid ((kb && kf) = (k0 && (kz.take (j + 1)).all (knF (ck u) u r.rs))) := by
        show _ = _
        rw [take_step hjl, List.all_append, ← Bool.and_assoc, ← HKB.out, hkk, ← hkf]
        simp [knF, ht]
      have hwx : (Lit.int .i64 (x : Int)).wf = true := by simp [Lit.wf, IntKind.min, IntKind.max, IntKind.signed, IntKind.bits]; omega
      have HLK : Hid (∀ X : World, (∃ D, X.ownsMap Try.prog 3 (plainElem Try.prog 3) r.rb (N + 1) D ∧ KvF itEnc D r.rs) → (Instr.lookup 57 (.map (some r.rb)) (.int .i64 (x : Int)) false).run Try.prog X = .ok (.int .i64 t) X) := fun X h => rs_look h ht hwx
      obtain ⟨wy, hwy⟩ : ∃ q, wr = q := ⟨_, rfl⟩
      rw [hwy] at hc1 HW HOW ⊢
      have HLB2 : L ≤ 1048576 := HLB.out
      clear hwy hlt hjl hmem hs hk0' hk65 hkk hx65 hkf hwx ht
      go_upto_region 9 with fail
      clear hc1
      refine wp_region_held_drew (S := fun X => Blk X r.b 59 (ntC r) ∧ Blk X ab 62 (acC u p true) ∧ ∃ D, X.ownsMap Try.prog 3 (plainElem Try.prog 3) r.rb (N + 1) D ∧ KvF itEnc D r.rs) (by kernel_rfl) ⟨(HW.out.s.n p r HR1.out).1, HW.out.a, (HW.out.s.n p r HR1.out).2⟩ (fun hH => ?_)
      have HW0 := Lib.hid (HW.out.below (below_drewN (Below.refl _ wy) 1))
      have HOW0 : Hid (wy.drew.ownsRow W.heap.size 3 1 (.slice (some ⟨b1, o1, none⟩) L c) L (kz.map (.int .i64))) := HOW.out
      obtain ⟨w3, hw3⟩ : ∃ q, wy.drew = q := ⟨_, rfl⟩
      have HW0 : Hid (WrS w w3 F F3 xb sy da ck fs n1 sl3 (if kb = true then m else m + 1) (N + 1) ab u p) := by show WrS _ _ _ _ _ _ _ _ _ _ _ _ _ _ _ _; rw [← hw3]; exact HW0.out
      rw [hw3] at hH HOW0 ⊢
      clear hw3 HW HOW
      cases kb
      case false =>
        refine wpAnyH_take (i := 0) (v := .bool false) rfl (by kernel_rfl) (by kernel_rfl) (by kernel_rfl) (fun _ _ _ h => h) (.inl ⟨by rfl, fun _ _ => by kernel_rfl⟩) hH ?_
        (try simp only [List.getElem_toArray, List.getElem_cons_zero, Act.put, List.setIfInBounds_toArray, List.set_cons_zero, List.set_cons_succ])
        refine wpAnyH_take (i := 1) (v := .bool false) rfl (by kernel_rfl) (by kernel_rfl) (by kernel_rfl) (fun _ _ _ h => h) (.inl ⟨by rfl, fun _ _ => by kernel_rfl⟩) hH ?_
        (try simp only [List.getElem_toArray, List.getElem_cons_zero, List.getElem_cons_succ, Act.put, List.setIfInBounds_toArray, List.set_cons_zero, List.set_cons_succ])
        refine wpAnyH_take (i := 2) (v := undef) rfl (by kernel_rfl) (by kernel_rfl) (by kernel_rfl) (fun _ _ _ h => h) (.inr ⟨by rfl, rfl⟩) hH ?_
        (try simp only [List.getElem_toArray, List.getElem_cons_zero, List.getElem_cons_succ, Act.put, List.setIfInBounds_toArray, List.set_cons_zero, List.set_cons_succ])
        refine wpAnyH_take (i := 3) (v := undef) rfl (by kernel_rfl) (by kernel_rfl) (by kernel_rfl) (fun _ _ _ h => h) (.inr ⟨by rfl, rfl⟩) hH ?_
        (try simp only [List.getElem_toArray, List.getElem_cons_zero, List.getElem_cons_succ, Act.put, List.setIfInBounds_toArray, List.set_cons_zero, List.set_cons_succ])
        refine wpAnyH_take (i := 4) (v := undef) rfl (by kernel_rfl) (by kernel_rfl) (by kernel_rfl) (fun _ _ _ h => h) (.inr ⟨by rfl, rfl⟩) hH ?_
        (try simp only [List.getElem_toArray, List.getElem_cons_zero, List.getElem_cons_succ, Act.put, List.setIfInBounds_toArray, List.set_cons_zero, List.set_cons_succ])
        refine wpAnyH_take (i := 5) (v := undef) rfl (by kernel_rfl) (by kernel_rfl) (by kernel_rfl) (fun _ _ _ h => h) (.inr ⟨by rfl, rfl⟩) hH ?_
        (try simp only [List.getElem_toArray, List.getElem_cons_zero, List.getElem_cons_succ, Act.put, List.setIfInBounds_toArray, List.set_cons_zero, List.set_cons_succ])
        refine wpAnyH_take (i := 6) (v := undef) rfl (by kernel_rfl) (by kernel_rfl) (by kernel_rfl) (fun _ _ _ h => h) (.inr ⟨by rfl, rfl⟩) hH ?_
        (try simp only [List.getElem_toArray, List.getElem_cons_zero, List.getElem_cons_succ, Act.put, List.setIfInBounds_toArray, List.set_cons_zero, List.set_cons_succ])
        refine wpAnyH_take (i := 7) (v := undef) rfl (by kernel_rfl) (by kernel_rfl) (by kernel_rfl) (fun _ _ _ h => h) (.inr ⟨by rfl, rfl⟩) hH ?_
        (try simp only [List.getElem_toArray, List.getElem_cons_zero, List.getElem_cons_succ, Act.put, List.setIfInBounds_toArray, List.set_cons_zero, List.set_cons_succ])
        refine wpAnyH_take (i := 8) (v := undef) rfl (by kernel_rfl) (by kernel_rfl) (by kernel_rfl) (fun _ _ _ h => h) (.inr ⟨by rfl, rfl⟩) hH ?_
        (try simp only [List.getElem_toArray, List.getElem_cons_zero, List.getElem_cons_succ, Act.put, List.setIfInBounds_toArray, List.set_cons_zero, List.set_cons_succ])
        refine wpAnyH_take (i := 9) (v := undef) rfl (by kernel_rfl) (by kernel_rfl) (by kernel_rfl) (fun _ _ _ h => h) (.inr ⟨by rfl, rfl⟩) hH ?_
        (try simp only [List.getElem_toArray, List.getElem_cons_zero, List.getElem_cons_succ, Act.put, List.setIfInBounds_toArray, List.set_cons_zero, List.set_cons_succ])
        refine wpAnyH_take (i := 10) (v := undef) rfl (by kernel_rfl) (by kernel_rfl) (by kernel_rfl) (fun _ _ _ h => h) (.inr ⟨by rfl, rfl⟩) hH ?_
        (try simp only [List.getElem_toArray, List.getElem_cons_zero, List.getElem_cons_succ, Act.put, List.setIfInBounds_toArray, List.set_cons_zero, List.set_cons_succ])
        refine wpAnyH_take (i := 11) (v := undef) rfl (by kernel_rfl) (by kernel_rfl) (by kernel_rfl) (fun _ _ _ h => h) (.inr ⟨by rfl, rfl⟩) hH ?_
        (try simp only [List.getElem_toArray, List.getElem_cons_zero, List.getElem_cons_succ, Act.put, List.setIfInBounds_toArray, List.set_cons_zero, List.set_cons_succ])
        refine wpAnyH_take (i := 12) (v := undef) rfl (by kernel_rfl) (by kernel_rfl) (by kernel_rfl) (fun _ _ _ h => h) (.inr ⟨by rfl, rfl⟩) hH ?_
        (try simp only [List.getElem_toArray, List.getElem_cons_zero, List.getElem_cons_succ, Act.put, List.setIfInBounds_toArray, List.set_cons_zero, List.set_cons_succ])
        refine wpAnyH_take (i := 13) (v := .bool false) rfl (by kernel_rfl) (by kernel_rfl) (by kernel_rfl) (fun _ _ _ h => h) (.inl ⟨by rfl, fun _ _ => by kernel_rfl⟩) hH ?_
        (try simp only [List.getElem_toArray, List.getElem_cons_zero, List.getElem_cons_succ, Act.put, List.setIfInBounds_toArray, List.set_cons_zero, List.set_cons_succ])
        refine wpAnyH_take (i := 14) (v := .bool false) rfl (by kernel_rfl) (by kernel_rfl) (by kernel_rfl) (fun _ _ _ h => h) (.inl ⟨by rfl, fun _ _ => by kernel_rfl⟩) hH ?_
        (try simp only [List.getElem_toArray, List.getElem_cons_zero, List.getElem_cons_succ, Act.put, List.setIfInBounds_toArray, List.set_cons_zero, List.set_cons_succ])
        refine wpAnyH_done (by kernel_rfl) ?_ _
        clear hH
        go_wp2_with fail
        go_roundw
        case rel => exact ⟨j + 1, F3, sl3, false, by have := HLT.out; omega, by go_num, rfl, HNX, HW0, HOW0, HOG⟩
        case measure => have := HLT.out; simp [RowKit.intOf]; omega
      case true =>
        refine wpAnyH_take (i := 0) (v := .bool true) rfl (by kernel_rfl) (by kernel_rfl) (by kernel_rfl) (fun _ _ _ h => h) (.inl ⟨by rfl, fun _ _ => by kernel_rfl⟩) hH ?_
        (try simp only [List.getElem_toArray, List.getElem_cons_zero, Act.put, List.setIfInBounds_toArray, List.set_cons_zero, List.set_cons_succ])
        refine wpAnyH_take (i := 1) (v := .bool true) rfl (by kernel_rfl) (by kernel_rfl) (by kernel_rfl) (fun _ _ _ h => h) (.inl ⟨by rfl, fun _ _ => by kernel_rfl⟩) hH ?_
        (try simp only [List.getElem_toArray, List.getElem_cons_zero, List.getElem_cons_succ, Act.put, List.setIfInBounds_toArray, List.set_cons_zero, List.set_cons_succ])
        refine wpAnyH_take (i := 2) (v := .pointer (some ⟨xb, 0, none⟩)) rfl (by kernel_rfl) (by kernel_rfl) (by kernel_rfl) (fun _ _ _ h => h) (.inl ⟨by rfl, fun _ _ => by kernel_rfl⟩) hH ?_
        (try simp only [List.getElem_toArray, List.getElem_cons_zero, List.getElem_cons_succ, Act.put, List.setIfInBounds_toArray, List.set_cons_zero, List.set_cons_succ])
        refine wpAnyH_take (i := 3) (v := .int .i64 ((x : Nat) : Int)) rfl (by kernel_rfl) (by kernel_rfl) (by kernel_rfl) (fun _ _ _ h => h) (.inl ⟨by rfl, fun _ _ => by kernel_rfl⟩) hH ?_
        (try simp only [List.getElem_toArray, List.getElem_cons_zero, List.getElem_cons_succ, Act.put, List.setIfInBounds_toArray, List.set_cons_zero, List.set_cons_succ])
        refine wpAnyH_take (i := 4) (v := .pointer (some ⟨r.b, 0, none⟩)) rfl (by kernel_rfl) (by kernel_rfl) (by kernel_rfl) (fun _ _ _ h => h) (.inl ⟨by rfl, fun _ _ => by kernel_rfl⟩) hH ?_
        (try simp only [List.getElem_toArray, List.getElem_cons_zero, List.getElem_cons_succ, Act.put, List.setIfInBounds_toArray, List.set_cons_zero, List.set_cons_succ])
        refine wpAnyH_take (i := 5) (v := .pointer (some ⟨r.b, 0, none⟩)) rfl (by kernel_rfl) (by kernel_rfl) (by kernel_rfl) (fun _ _ _ h => h) (.inl ⟨by rfl, fun _ _ => by kernel_rfl⟩) hH ?_
        (try simp only [List.getElem_toArray, List.getElem_cons_zero, List.getElem_cons_succ, Act.put, List.setIfInBounds_toArray, List.set_cons_zero, List.set_cons_succ])
        refine wpAnyH_take (i := 6) (v := .pointer (some ⟨r.b, 3, none⟩)) rfl (by kernel_rfl) (by kernel_rfl) (by kernel_rfl) (fun _ _ _ h => h) (.inl ⟨by rfl, fun _ _ => by kernel_rfl⟩) hH ?_
        (try simp only [List.getElem_toArray, List.getElem_cons_zero, List.getElem_cons_succ, Act.put, List.setIfInBounds_toArray, List.set_cons_zero, List.set_cons_succ])
        refine wpAnyH_take (i := 7) (v := .map (some r.rb)) rfl (by kernel_rfl) (by kernel_rfl) (by kernel_rfl) (fun _ _ _ h => h) (yieldsIf_loadP (by rfl) _ rfl rfl (fun _ q => load_mapIR (q.1.cell 3))) hH ?_
        (try simp only [List.getElem_toArray, List.getElem_cons_zero, List.getElem_cons_succ, Act.put, List.setIfInBounds_toArray, List.set_cons_zero, List.set_cons_succ])
        refine wpAnyH_take (i := 8) (v := .int .i64 ((x : Nat) : Int)) rfl (by kernel_rfl) (by kernel_rfl) (by kernel_rfl) (fun _ _ _ h => h) (.inl ⟨by rfl, fun _ _ => by kernel_rfl⟩) hH ?_
        (try simp only [List.getElem_toArray, List.getElem_cons_zero, List.getElem_cons_succ, Act.put, List.setIfInBounds_toArray, List.set_cons_zero, List.set_cons_succ])
        refine wpAnyH_take (i := 9) (v := .int .i64 t) rfl (by kernel_rfl) (by kernel_rfl) (by kernel_rfl) (fun _ _ _ h => h) (yieldsIf_lookR (by rfl) _ _ rfl rfl rfl (fun X q => HLK.out X q.2.2)) hH ?_
        (try simp only [List.getElem_toArray, List.getElem_cons_zero, List.getElem_cons_succ, Act.put, List.setIfInBounds_toArray, List.set_cons_zero, List.set_cons_succ])
        refine wpAnyH_take (i := 10) (v := .agg (noC x t)) rfl (by kernel_rfl) (by kernel_rfl) (by kernel_rfl) (fun _ _ _ h => h) (.inl ⟨by rfl, fun _ _ => by kernel_rfl⟩) hH ?_
        (try simp only [List.getElem_toArray, List.getElem_cons_zero, List.getElem_cons_succ, Act.put, List.setIfInBounds_toArray, List.set_cons_zero, List.set_cons_succ])
        refine wpAnyH_take (i := 11) (v := .agg (acC u p true)) rfl (by kernel_rfl) (by kernel_rfl) (by kernel_rfl) (fun _ _ _ h => h) (yieldsIf_loadP (by rfl) _ rfl rfl (fun _ q => acc_load q.2.1)) hH ?_
        (try simp only [List.getElem_toArray, List.getElem_cons_zero, List.getElem_cons_succ, Act.put, List.setIfInBounds_toArray, List.set_cons_zero, List.set_cons_succ])
        have hC := rc_check HW0.out.s u HU.out x HX.out t false p true (by have := HM.out; simp; omega)
        rw [HKF.out] at hC
        refine wpAnyH_call 12 27 #[.pointer (some ⟨xb, 0, none⟩), .agg (noC x t), .bool false, .agg (acC u p true)] _ (by kernel_rfl) (by rfl) (by kernel_rfl) (by kernel_rfl) hC ?_
        rintro e w4 ⟨F4, sl4, rfl, hS2, hT2, hF2⟩
        have HW5 := Lib.hid (HW0.out.next hS2 hT2 hF2)
        have hH2 : Blk w4 r.b 59 (ntC r) ∧ Blk w4 ab 62 (acC u p true) ∧ ∃ D, w4.ownsMap Try.prog 3 (plainElem Try.prog 3) r.rb (N + 1) D ∧ KvF itEnc D r.rs := ⟨(HW5.out.s.n p r HR1.out).1, HW5.out.a, (HW5.out.s.n p r HR1.out).2⟩
        have HOW5 : Hid (w4.ownsRow W.heap.size 3 1 (.slice (some ⟨b1, o1, none⟩) L c) L (kz.map (.int .i64))) := ownsRow_tch HOW0.out hT2 (fun g hg q => HOG.out g hg q)
        have HOG5 : Hid (∀ g, (Value.slice (some ⟨b1, o1, none⟩) L c).ownBlock = some g → ¬ F4 g) := fun g hg q => by
          rcases hF2 g q with h | h
          · exact HOG.out g hg h
          · have := (HOW0.out.lt g hg).2; omega
        refine ⟨_, rfl, hH2, ?_⟩
        (try simp only [List.getElem_toArray, List.getElem_cons_zero, List.getElem_cons_succ, Act.put, List.setIfInBounds_toArray, List.set_cons_zero, List.set_cons_succ])
        refine wpAnyH_take (i := 13) (v := .bool kf) rfl (by kernel_rfl) (by kernel_rfl) (by kernel_rfl) (fun _ _ _ h => h) (.inl ⟨by rfl, fun _ _ => by kernel_rfl⟩) hH2 ?_
        (try simp only [List.getElem_toArray, List.getElem_cons_zero, List.getElem_cons_succ, Act.put, List.setIfInBounds_toArray, List.set_cons_zero, List.set_cons_succ])
        refine wpAnyH_take (i := 14) (v := .bool kf) rfl (by kernel_rfl) (by kernel_rfl) (by kernel_rfl) (fun _ _ _ h => h) (.inl ⟨by rfl, fun _ _ => by kernel_rfl⟩) hH2 ?_
        (try simp only [List.getElem_toArray, List.getElem_cons_zero, List.getElem_cons_succ, Act.put, List.setIfInBounds_toArray, List.set_cons_zero, List.set_cons_succ])
        refine wpAnyH_done (by kernel_rfl) ?_ _
        clear hH hH2 hC hS2 hT2 hF2
        go_wp2_with fail
        go_roundw
        case rel => exact ⟨j + 1, F4, sl4, kf, by have := HLT.out; omega, by go_num, rfl, HNX, HW5, HOW5, HOG5⟩
        case measure => have := HLT.out; simp [RowKit.intOf]; omega
    · obtain rfl : j = L := by omega
      have HKN : Hid (kb = ((!r.wr || knC (ck u) u r.ww r.wt) && kz.all (knF (ck u) u r.rs))) := by
        show _ = _
        have := HKB.out
        rw [← HKL.out, List.take_length] at this
        rw [this, HK0.out]
      obtain ⟨wy, hwy⟩ : ∃ q, wr = q := ⟨_, rfl⟩
      rw [hwy] at HW ⊢
      clear hwy HOW HOG HKB
      obtain ⟨V1, hrun1, hc2, hf2, hS2, hT2⟩ := HW.out.s.setWrite HR1.out u HU.out (ig (ck u) u)
      have cuu : wy.cell? ⟨xb, u * 65 + u, none⟩ = some (.int .i64 (ig (ck u) u)) := HW.out.s.at_ HU.out HU.out
      obtain ⟨V2, hV2⟩ : ∃ q, V1.setCell ⟨r.b, 2, none⟩ (.bool true) = q := ⟨_, rfl⟩
      rw [hV2] at hS2 hT2
      obtain ⟨V3, hcl, hS3, hT3⟩ := hS2.clearReads (upO_self _ _ _)
      have c3 : V2.cell? ⟨r.b, 3, none⟩ = some (.map (some r.rb)) := (hS2.n p _ (upO_self _ _ _)).1.cell 3
      rw [upO_upO, ← HN1.out, upO_upO] at hS3
      have HS3 := Lib.hid hS3
      have HT3 : Hid (Tch F w V3) := (HW.out.t.trans hT2 (fun x hx => HW.out.f x hx)).trans hT3 (fun x hx => HW.out.f x hx)
      have HF3 := Lib.hid HW.out.f
      have u5 : (u : Int) < 65 := by have := HU.out; omega
      obtain ⟨cz, hcz⟩ : ∃ q, ig (ck u) u = q := ⟨_, rfl⟩
      rw [hcz] at hrun1 cuu
      unfold noC at hrun1
      have HCZ := Lib.hid hcz
      have HKK : Hid (∀ k ∈ kz, (r.rs k).isSome = true ∧ 0 ≤ k ∧ k < 65) := HKM
      clear hS2 hT2 hS3 hT3 HW hcz
      go_upto_region 12 with (refine wpList_storeE hrun1 _ _ rfl rfl rfl rfl ?_)
      (try rw [hV2])
      clear hV2 hrun1 hc2 hf2 cuu
      go_wp2_with fail
      go_ret
      exact ⟨_, _, r, _, kz, rfl, HOR.out, HKK.out, HKN.out, HS3.out, HT3.out, HF3.out⟩
end Go.Proofs.Ytoodifpkconfcaa
