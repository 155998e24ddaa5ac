/- Maps that count. -/
import Derived.Test.YtbpcddimnbjoeaaPlB
import Derived.Maps.Own
import Derived.Maps.OwnOps
import Derived.Maps.OwnSet
import Derived.Deep.WholeRow
namespace Go.Proofs.Ytbpcddimnbjoeaa
open Go.RowKit Go.Maps Go.ChangeMaps Go.MapKept
/-- A map that tells how often a number is in a list. -/
structure CmD (kd : IntKind) (D : DataW Unit) (xs : List Int) : Prop where
  tidy : Tidy D
  cnt : ∀ v : Int, D.atKey (.int kd v) (.lit (.int .i64 0)) = .lit (.int .i64 (xs.count v : Nat))
  has_ : ∀ v : Int, has D (.int kd v) = decide (v ∈ xs)
  size1 : Maps.size D ≤ xs.length
  size2 : Maps.size D = xs.length ↔ xs.Nodup
theorem CmD.nil_ (kd : IntKind) : CmD kd (.map []) [] := by
  refine ⟨tidy_empty, fun v => rfl, fun v => ?_, Nat.le_refl _, ?_⟩
  · simp [has]
  · simp [Maps.size]
theorem key_inj {kd : IntKind} {u v : Int} (h : Lit.int kd u = Lit.int kd v) : u = v := by injection h
theorem CmD.snoc {kd : IntKind} {D : DataW Unit} {xs : List Int} (h : CmD kd D xs) (v : Int) : CmD kd (D.put (.int kd v) (.lit (.int .i64 ((xs.count v : Nat) + 1)))) (xs ++ [v]) := by
  have hkey : WideAt.IsKeyLit (.int kd v) := trivial
  have hsz := size_put (k := .int kd v) h.tidy (.lit (.int .i64 ((xs.count v : Nat) + 1)))
  rw [h.has_ v] at hsz
  have hs1 := h.size1
  have hs2 := h.size2
  have hnd : (xs ++ [v]).Nodup ↔ xs.Nodup ∧ v ∉ xs := by
    rw [List.nodup_append]
    simp
    intro _
    exact ⟨fun b hm => b _ hm rfl, fun b x hx e => b (e ▸ hx)⟩
  refine ⟨h.tidy.put hkey _, fun u => ?_, fun u => ?_, ?_, ?_⟩
  · by_cases e : u = v
    · subst e
      rw [atKey_put_same h.tidy.isMap hkey]
      simp
    · rw [atKey_put_other (fun q => e (key_inj q)), h.cnt u, List.count_append]
      have : List.count u [v] = 0 := List.count_eq_zero.2 (by simpa using e)
      rw [this, Nat.add_zero]
  · by_cases e : u = v
    · subst e
      rw [has_put_same h.tidy.isMap hkey]
      simp
    · rw [has_put_other (fun q => e (key_inj q)), h.has_ u]
      simp [e]
  · rw [List.length_append, List.length_singleton]
    by_cases e : v ∈ xs
    · rw [decide_eq_true e, if_pos rfl] at hsz; omega
    · rw [decide_eq_false e, if_neg (by decide)] at hsz; omega
  · rw [hnd, List.length_append, List.length_singleton]
    by_cases e : v ∈ xs
    · rw [decide_eq_true e, if_pos rfl] at hsz
      constructor
      · intro q; omega
      · rintro ⟨_, q⟩; exact absurd e q
    · rw [decide_eq_false e, if_neg (by decide)] at hsz
      constructor
      · intro q; exact ⟨hs2.1 (by omega), e⟩
      · rintro ⟨q, _⟩; have := hs2.2 q; omega
theorem cnt_eq {kd : IntKind} {D : DataW Unit} {xs : List Int} {v c : Int} (h : CmD kd D xs) (hc : D.atKey (.int kd v) (.lit (.int .i64 0)) = .lit (.int .i64 c)) : c = (xs.count v : Nat) := by
  rw [h.cnt v] at hc
  injection hc with hc
  injection hc with _ hc
  exact hc.symm
theorem lawI : Keyed Try.prog 3 := int_keyed Try.underlying3
theorem lawU : Keyed Try.prog 36 := int_keyed Try.underlying36
theorem zeroI : ∀ w, (zeroValue 3).run Try.prog w = .ok (.int .i64 0) w := by
  have h : (Try.prog.info? 3).map (fun i => (i.zero, i.size)) = some (some (.int .i64 0), 1) := by kernel_rfl
  exact (zero_of_info h).1
/-- .. in memory, with keys of type K. -/
def MpAt (w : World) (K b : Nat) (n : Nat) (D : DataW Unit) : Prop := w.ownsMap Try.prog K (plainElem Try.prog 3) b n D
theorem MpAt.at_ {w w' : World} {K b n : Nat} {D : DataW Unit} (h : MpAt w K b n D) (hb : w'.heap[b]? = w.heap[b]?) : MpAt w' K b n D := by
  obtain ⟨es, clock, h1, h2⟩ := h
  exact ⟨es, clock, hb.trans h1, h2⟩
theorem MpAt.lt {w : World} {K b n : Nat} {D : DataW Unit} (h : MpAt w K b n D) : b < w.heap.size := World.ownsMap.lt h
theorem MpAt.below {w w' : World} {K b n : Nat} {D : DataW Unit} (h : MpAt w K b n D) (hb : Below w.heap.size w w') : MpAt w' K b n D := h.at_ (hb.block _ h.lt)
theorem MpAt.alloc {w : World} {K b n : Nat} {D : DataW Unit} (h : MpAt w K b n D) (o : Obj) : MpAt (w.alloc o) K b n D := h.below (bel_box _ _)
theorem wf_cnt {n : Nat} (h : n ≤ 4611686018427387904) : (Lit.int .i64 ((n : Int) + 1)).wf = true := by
  simp [Lit.wf, IntKind.min, IntKind.max, IntKind.signed, IntKind.bits]; omega
theorem wf_i64 {n : Int} (h1 : -9223372036854775808 ≤ n) (h2 : n ≤ 9223372036854775807) : (Lit.int .i64 n).wf = true := by
  simp [Lit.wf, IntKind.min, IntKind.max, IntKind.signed, IntKind.bits]; omega
theorem count_le (xs : List Int) (v : Int) : xs.count v ≤ xs.length := List.count_le_length
theorem count_pos {xs : List Int} {v : Int} : 0 < xs.count v ↔ v ∈ xs := List.count_pos_iff
end Go.Proofs.Ytbpcddimnbjoeaa
