/- Slots used again: the arena's functions. -/
import Derived.Test.YthcmajeamandfaaIdA
import Derived.Test.YthcmajeamandfaaIdB
import Derived.Test.YthcmajeamandfaaRkI
import Derived.StillTailTactics
namespace Go.Proofs.Ythcmajeamandfaa
open Go.RowKit
def arC (sb fb n m c : Nat) (ct : Nat → Int) : Array Value := #[.slice (some ⟨sb, 0, none⟩) (n + 1) (n + 1), .slice (some ⟨fb, 0, none⟩) m c, .int .i64 (ct 0), .int .i64 (ct 1), .int .i64 (ct 2), .int .i64 (ct 3), .int .i64 (ct 4)]
/-- An arena: its box, its slots, those that are free. -/
structure ArS (w : World) (ap sb fb n c : Nat) (st gn : Nat → Int) (fr : List Int) (ct : Nat → Int) : Prop where
  a : Blk w ap 63 (arC sb fb n fr.length c ct)
  s : ∃ C : Array Value, Blk w sb 67 C ∧ C.size = (n + 1) * 2 ∧ ∀ i, i ≤ n → C[i * 2]? = some (.int .i64 (st i)) ∧ C[i * 2 + 1]? = some (.int .i64 (gn i))
  f : w.ownsRow 0 3 1 (.slice (some ⟨fb, 0, none⟩) fr.length c) fr.length (fr.map (.int .i64))
  ne : ap ≠ sb ∧ ap ≠ fb ∧ sb ≠ fb
  n0 : 1 ≤ n ∧ n ≤ 4096
/-- What may be written. -/
def arF (ap sb fb : Nat) (x : Nat) : Prop := x = ap ∨ x = sb ∨ x = fb
section
variable {w w' : World} {ap sb fb n c : Nat} {st gn : Nat → Int} {fr : List Int} {ct : Nat → Int}
theorem ArS.keep {S' : Nat → Prop} (S : ArS w ap sb fb n c st gn fr ct) (hT : Tch S' w w') (hS : ∀ x, S' x → ¬ arF ap sb fb x) : ArS w' ap sb fb n c st gn fr ct :=
  ⟨S.a.tch hT (fun q => hS _ q (.inl rfl)), by obtain ⟨C, h1, h2⟩ := S.s; exact ⟨C, h1.tch hT (fun q => hS _ q (.inr (.inl rfl))), h2⟩, ownsRow_tch S.f hT (fun k hk q => by injection hk with hk; subst hk; exact hS _ q (.inr (.inr rfl))), S.ne, S.n0⟩
theorem ArS.below (S : ArS w ap sb fb n c st gn fr ct) (hb : Below w.heap.size w w') : ArS w' ap sb fb n c st gn fr ct := S.keep (Tch.of_below (S := fun _ => False) hb) (fun _ q => q.elim)
theorem ArS.drw (S : ArS w ap sb fb n c st gn fr ct) : ArS w.drew ap sb fb n c st gn fr ct := ⟨S.a, S.s, S.f, S.ne, S.n0⟩
theorem ArS.stc (S : ArS w ap sb fb n c st gn fr ct) {k : Nat} (hk : k ≤ n) : w.cell? ⟨sb, k * 2, none⟩ = some (.int .i64 (st k)) := by obtain ⟨C, h1, _, h2⟩ := S.s; exact (h1.cell _).trans (h2 k hk).1
theorem ArS.gnc (S : ArS w ap sb fb n c st gn fr ct) {k : Nat} (hk : k ≤ n) : w.cell? ⟨sb, k * 2 + 1, none⟩ = some (.int .i64 (gn k)) := by obtain ⟨C, h1, _, h2⟩ := S.s; exact (h1.cell _).trans (h2 k hk).2
theorem ArS.sfz (S : ArS w ap sb fb n c st gn fr ct) (i : Nat) : w.frozen? ⟨sb, i, none⟩ = false := by obtain ⟨C, h1, _⟩ := S.s; exact h1.frozen _
theorem ArS.cnt (S : ArS w ap sb fb n c st gn fr ct) {j : Nat} (hj : j < 5) : w.cell? ⟨ap, 2 + j, none⟩ = some (.int .i64 (ct j)) := by
  refine (S.a.cell _).trans ?_
  match j, hj with
  | 0, _ => rfl
  | 1, _ => rfl
  | 2, _ => rfl
  | 3, _ => rfl
  | 4, _ => rfl
end
set_option maxRecDepth 100000 in
theorem ar_at {w : World} {ap sb fb n c : Nat} {st gn : Nat → Int} {fr : List Int} {ct : Nat → Int} (S : ArS w ap sb fb n c st gn fr ct) (k : Nat) (h1 : 1 ≤ k) (hk : k ≤ n) :
    Calls Try.prog 24 #[.pointer (some ⟨ap, 0, none⟩), .int .i64 ((k : Nat) : Int)] w (fun e w' => e = .returned (.pointer (some ⟨sb, k * 2, none⟩)) ∧ w = w') := by
  have c0 : w.cell? ⟨ap, 0, none⟩ = some (.slice (some ⟨sb, 0, none⟩) (n + 1) (n + 1)) := S.a.cell 0
  have hn := S.n0.2
  have t1 : decide ((k : Int) < 1) = false := decide_eq_false (by omega)
  have t2 : decide (k < 1) = false := decide_eq_false (by omega)
  have t3 : decide ((k : Int) ≥ ((n + 1 : Nat) : Int)) = false := decide_eq_false (by omega)
  have t4 : decide (n + 1 ≤ k) = false := decide_eq_false (by omega)
  clear S
  go_enter Try.func24, Try.ntmps24
  go_wp2_with fail
  go_ret
  exact ⟨rfl, rfl⟩
def upA (f : Nat → Int) (k : Nat) (v : Int) : Nat → Int := fun x => if x = k then v else f x
theorem upA_self (f : Nat → Int) (k : Nat) (v : Int) : upA f k v k = v := if_pos rfl
theorem upA_ne (f : Nat → Int) {k x : Nat} (h : x ≠ k) (v : Int) : upA f k v x = f x := if_neg h
section
variable {w w' : World} {ap sb fb n c : Nat} {st gn : Nat → Int} {fr : List Int} {ct : Nat → Int}
theorem ArS.setC (S : ArS w ap sb fb n c st gn fr ct) {j : Nat} (hj : j < 5) (v : Int) : ArS (w.setCell ⟨ap, 2 + j, none⟩ (.int .i64 v)) ap sb fb n c st gn fr (upA ct j v) := by
  have hT : Tch (fun x => x = ap) w (w.setCell ⟨ap, 2 + j, none⟩ (.int .i64 v)) := Tch.setCell (S := fun x => x = ap) (Tch.refl _ w) rfl _ _
  refine ⟨?_, ?_, ownsRow_tch S.f hT (fun k hk q => by injection hk with hk; subst hk; exact S.ne.2.1 q.symm), S.ne, S.n0⟩
  · have := S.a.set_ (2 + j) (.int .i64 v)
    have e : (arC sb fb n fr.length c ct).setIfInBounds (2 + j) (.int .i64 v) = arC sb fb n fr.length c (upA ct j v) := by
      match j, hj with
      | 0, _ => rfl
      | 1, _ => rfl
      | 2, _ => rfl
      | 3, _ => rfl
      | 4, _ => rfl
    rw [e] at this
    exact this
  · obtain ⟨C, h1, h2⟩ := S.s
    exact ⟨C, h1.tch hT (fun q => S.ne.1 q.symm), h2⟩
theorem ArS.setS (S : ArS w ap sb fb n c st gn fr ct) {k : Nat} (hk : k ≤ n) (v : Int) : ArS (w.setCell ⟨sb, k * 2, none⟩ (.int .i64 v)) ap sb fb n c (upA st k v) gn fr ct := by
  have hT : Tch (fun x => x = sb) w (w.setCell ⟨sb, k * 2, none⟩ (.int .i64 v)) := Tch.setCell (S := fun x => x = sb) (Tch.refl _ w) rfl _ _
  refine ⟨S.a.tch hT (fun q => S.ne.1 q), ?_, ownsRow_tch S.f hT (fun k hk q => by injection hk with hk; subst hk; exact S.ne.2.2 q.symm), S.ne, S.n0⟩
  obtain ⟨C, h1, h2, h3⟩ := S.s
  refine ⟨_, h1.set_ (k * 2) (.int .i64 v), by rw [Array.size_setIfInBounds]; exact h2, fun i hi => ⟨?_, ?_⟩⟩
  · by_cases e : i = k
    · subst e
      rw [Array.getElem?_setIfInBounds_self_of_lt (by rw [h2]; omega), upA_self]
    · rw [Array.getElem?_setIfInBounds_ne (by omega), upA_ne _ e]
      exact (h3 i hi).1
  · rw [Array.getElem?_setIfInBounds_ne (by omega)]
    exact (h3 i hi).2
theorem ArS.setG (S : ArS w ap sb fb n c st gn fr ct) {k : Nat} (hk : k ≤ n) (v : Int) : ArS (w.setCell ⟨sb, k * 2 + 1, none⟩ (.int .i64 v)) ap sb fb n c st (upA gn k v) fr ct := by
  have hT : Tch (fun x => x = sb) w (w.setCell ⟨sb, k * 2 + 1, none⟩ (.int .i64 v)) := Tch.setCell (S := fun x => x = sb) (Tch.refl _ w) rfl _ _
  refine ⟨S.a.tch hT (fun q => S.ne.1 q), ?_, ownsRow_tch S.f hT (fun k hk q => by injection hk with hk; subst hk; exact S.ne.2.2 q.symm), S.ne, S.n0⟩
  obtain ⟨C, h1, h2, h3⟩ := S.s
  refine ⟨_, h1.set_ (k * 2 + 1) (.int .i64 v), by rw [Array.size_setIfInBounds]; exact h2, fun i hi => ⟨?_, ?_⟩⟩
  · rw [Array.getElem?_setIfInBounds_ne (by omega)]
    exact (h3 i hi).1
  · by_cases e : i = k
    · subst e
      rw [Array.getElem?_setIfInBounds_self_of_lt (by rw [h2]; omega), upA_self]
    · rw [Array.getElem?_setIfInBounds_ne (by omega), upA_ne _ e]
      exact (h3 i hi).2
end
set_option maxRecDepth 100000 in
theorem ar_set {w : World} {ap sb fb n c : Nat} {st gn : Nat → Int} {fr : List Int} {ct : Nat → Int} (S : ArS w ap sb fb n c st gn fr ct) (k : Nat) (hk : k ≤ n) (j t : Nat) (z : Int) (hz : z = ((t : Nat) : Int)) (hs : st k = (j : Int)) (hj : j < 5) (ht : t < 5) (hjt : j ≠ t) (hc1 : 1 ≤ ct j ∧ ct j ≤ 1048576) (hc2 : 0 ≤ ct t ∧ ct t ≤ 1048576) :
    Calls Try.prog 25 #[.pointer (some ⟨ap, 0, none⟩), .pointer (some ⟨sb, k * 2, none⟩), .int .i64 z] w (fun e w' => e = .returned (.tuple #[]) ∧ ArS w' ap sb fb n c (upA st k z) gn fr (upA (upA ct j (ct j - 1)) t (ct t + 1)) ∧ Tch (arF ap sb fb) w w') := by
  subst hz
  have cs : w.cell? ⟨sb, k * 2, none⟩ = some (.int .i64 (j : Int)) := by rw [S.stc hk, hs]
  have cj := S.cnt hj
  have fj : w.frozen? ⟨ap, 2 + j, none⟩ = false := S.a.frozen _
  obtain ⟨v, hv⟩ : ∃ v, ct j = v := ⟨_, rfl⟩
  rw [hv] at cj hc1
  have w64 : wrap64 (v - 1) = v - 1 := by unfold wrap64; omega
  obtain ⟨w1, hw1⟩ : ∃ q, (w.setCell ⟨ap, 2 + j, none⟩ (.int .i64 (wrap64 (v - 1)))).drew = q := ⟨_, rfl⟩
  have HSx : Hid (ArS w1 ap sb fb n c st gn fr (upA ct j (v - 1))) := by
    show ArS _ _ _ _ _ _ _ _ _ _
    rw [← hw1, w64]
    exact (S.setC hj _).drw
  have ct2 := HSx.out.cnt ht
  rw [upA_ne _ hjt.symm] at ct2
  obtain ⟨u, hu⟩ : ∃ u, ct t = u := ⟨_, rfl⟩
  rw [hu] at ct2 hc2
  have f2 : w1.frozen? ⟨ap, 2 + t, none⟩ = false := HSx.out.a.frozen _
  have w65 : wrap64 (u + 1) = u + 1 := by unfold wrap64; omega
  obtain ⟨w2, hw2⟩ : ∃ q, (w1.setCell ⟨ap, 2 + t, none⟩ (.int .i64 (wrap64 (u + 1)))).drew = q := ⟨_, rfl⟩
  have HS2 : Hid (ArS w2 ap sb fb n c st gn fr (upA (upA ct j (v - 1)) t (u + 1))) := by
    show ArS _ _ _ _ _ _ _ _ _ _
    rw [← hw2, w65]
    exact (HSx.out.setC ht (u + 1)).drw
  have f3 : w2.frozen? ⟨sb, k * 2, none⟩ = false := HS2.out.sfz _
  have c3 : w2.cell? ⟨sb, k * 2, none⟩ = some (.int .i64 (st k)) := HS2.out.stc hk
  have HS3 := Lib.hid (HS2.out.setS hk ((t : Nat) : Int))
  have HT : Hid (Tch (arF ap sb fb) w (w2.setCell ⟨sb, k * 2, none⟩ (.int .i64 ((t : Nat) : Int)))) := by
    show Tch _ _ _
    rw [← hw2, ← hw1]
    exact Tch.setCell (S := arF ap sb fb) (Tch.drewN (Tch.setCell (S := arF ap sb fb) (Tch.drewN (Tch.setCell (S := arF ap sb fb) (Tch.refl _ w) (.inl rfl) _ _) 1) (.inl rfl) _ _) 1) (.inr (.inl rfl)) _ _
  have hv' := Lib.hid hv
  have hu' := Lib.hid hu
  clear S hs hc2 hc1 hv hu
  have j5 : (j : Int) < 5 := by omega
  have t5 : (t : Int) < 5 := by omega
  go_enter Try.func25, Try.ntmps25
  go_upto_region 0 with fail
  go_still_tail 13, (by kernel_rfl)
  change wpList _ _ _ _ _ w.drew
  go_upto_region 1 with fail
  (try rw [hw1])
  clear hw1
  go_still_tail 10, (by kernel_rfl)
  change wpList _ _ _ _ _ w1.drew
  go_upto_region 2 with fail
  (try rw [hw2])
  clear hw2
  go_wp2_with fail
  go_end0
  exact ⟨rfl, by have h1 := hv'.out; have h2 := hu'.out; subst h1; subst h2; exact HS3.out, HT.out⟩
end Go.Proofs.Ythcmajeamandfaa
