/- Refs by ids: plain laws. -/
import Derived.Maps.Views
import Derived.Maps.OwnSet
import Derived.Maps.RangeWalk
import Derived.Test.YthcmajeamandfaaBase
namespace Go.Proofs.Ythcmajeamandfaa
open Go.Maps Go.ChangeMaps
/-- An id, with its ref. -/
structure Nm where
  id : Int
  slot : Int
  gen : Int
def refV (x : Nm) : Value := .agg #[.int .i64 x.slot, .int .i64 x.gen]
def refD (x : Nm) : DataW Unit := .agg [.lit (.int .i64 x.slot), .lit (.int .i64 x.gen)]
/-- How a ref reads. -/
def refElem (v : Value) : Option (DataW Unit × List MemPlace) :=
  match v with
  | .agg cs => match cs.toList with
    | [.int .i64 s, .int .i64 g] => some (.agg [.lit (.int .i64 s), .lit (.int .i64 g)], [])
    | _ => none
  | _ => none
theorem refElem_mk (x : Nm) : refElem (refV x) = some (refD x, []) := rfl
theorem refElem_inv {v : Value} {z : DataW Unit × List MemPlace} (h : refElem v = some z) : ∃ x : Nm, x.id = 0 ∧ v = refV x ∧ z = (refD x, []) := by
  unfold refElem at h
  split at h
  · rename_i cs
    split at h
    · rename_i s g e
      injection h with h
      refine ⟨⟨0, s, g⟩, rfl, ?_, h.symm⟩
      unfold refV
      congr 1
      apply Array.toList_inj.1
      exact e
    · cases h
  · cases h
theorem refD_inj {x y : Nm} (h : refD x = refD y) : x.slot = y.slot ∧ x.gen = y.gen := by
  unfold refD at h
  injection h with h
  injection h with h1 h2
  injection h2 with h2 _
  injection h1 with h1
  injection h1 with _ h1
  injection h2 with h2
  injection h2 with _ h2
  exact ⟨h1, h2⟩
/-- A map that has these, and no others. -/
structure RefM (D : DataW Unit) (L : List Nm) : Prop where
  tidy : Tidy D
  has_ : ∀ id : Int, has D (.int .u64 id) = L.any fun x => x.id == id
  at_ : ∀ x ∈ L, ∀ z, D.atKey (.int .u64 x.id) z = refD x
  size_ : Maps.size D = L.length
  nd : L.Pairwise fun x y => x.id ≠ y.id
theorem any_id {L : List Nm} {id : Int} : (L.any fun x => x.id == id) = true ↔ ∃ x ∈ L, x.id = id := by
  rw [List.any_eq_true]
  constructor
  · rintro ⟨x, hx, h⟩; exact ⟨x, hx, by simpa using h⟩
  · rintro ⟨x, hx, h⟩; exact ⟨x, hx, by simpa using h⟩
theorem RefM.nil_ : RefM (.map []) [] := ⟨tidy_empty, fun _ => by simp [has], fun x h => by simp at h, by simp [Maps.size], List.Pairwise.nil⟩
theorem keyU {a b : Int} (h : a ≠ b) : (Lit.int .u64 a) ≠ .int .u64 b := fun e => by injection e with _ e; exact h e
theorem RefM.put {D : DataW Unit} {L : List Nm} (h : RefM D L) (x : Nm) (hx : ∀ y ∈ L, y.id ≠ x.id) : RefM (D.put (.int .u64 x.id) (refD x)) (L ++ [x]) := by
  have hkey : WideAt.IsKeyLit (.int .u64 x.id) := trivial
  have hno : has D (.int .u64 x.id) = false := by
    rw [h.has_]
    refine Bool.eq_false_iff.2 fun q => ?_
    obtain ⟨y, hy, e⟩ := any_id.1 q
    exact hx y hy e
  refine ⟨h.tidy.put hkey _, fun id => ?_, fun y hy z => ?_, ?_, ?_⟩
  · rw [List.any_append]
    by_cases e : id = x.id
    · subst e
      rw [has_put_same h.tidy.isMap hkey]
      simp
    · rw [has_put_other (keyU e), h.has_]
      have : (x.id == id) = false := by simpa using fun q : x.id = id => e q.symm
      simp [this]
  · rcases List.mem_append.1 hy with hy | hy
    · rw [atKey_put_other (keyU (hx y hy)), h.at_ y hy]
    · obtain rfl : y = x := by simpa using hy
      rw [atKey_put_same h.tidy.isMap hkey]
  · rw [size_put h.tidy, hno, h.size_, List.length_append]
    rfl
  · rw [List.pairwise_append]
    exact ⟨h.nd, by simp, fun a ha b hb => by
      rw [List.mem_singleton] at hb
      subst hb
      exact hx a ha⟩
theorem filter_len_del : ∀ {L : List Nm} (_ : L.Pairwise fun x y => x.id ≠ y.id) {x : Nm} (_ : x ∈ L), (L.filter fun y => y.id != x.id).length + 1 = L.length
  | a :: L, hnd, x, hx => by
    obtain ⟨h1, h2⟩ := List.pairwise_cons.1 hnd
    by_cases e : a.id = x.id
    · have hf : (L.filter fun y => y.id != x.id) = L := List.filter_eq_self.2 fun y hy => by
        have := h1 y hy
        rw [e] at this
        simpa using fun q => this q.symm
      rw [List.filter_cons, if_neg (by simp [e]), hf]
      rfl
    · have hxL : x ∈ L := by
        rcases List.mem_cons.1 hx with q | q
        · exact absurd (by rw [q]) e
        · exact q
      have := filter_len_del h2 hxL
      rw [List.filter_cons, if_pos (by simpa using e)]
      simp only [List.length_cons]
      omega
theorem RefM.del {D : DataW Unit} {L : List Nm} (h : RefM D L) (id : Int) : RefM (D.del (.int .u64 id)) (L.filter fun x => x.id != id) := by
  refine ⟨h.tidy.del _, fun id' => ?_, fun y hy z => ?_, ?_, h.nd.filter _⟩
  · by_cases e : id' = id
    · subst e
      rw [has_del_same]
      symm
      refine Bool.eq_false_iff.2 fun q => ?_
      obtain ⟨y, hy, e⟩ := any_id.1 q
      have := (List.mem_filter.1 hy).2
      simp [e] at this
    · rw [has_del_other (keyU e), h.has_]
      refine Bool.eq_iff_iff.2 ?_
      rw [any_id, any_id]
      constructor
      · rintro ⟨x, hx, rfl⟩; exact ⟨x, List.mem_filter.2 ⟨hx, by simpa using e⟩, rfl⟩
      · rintro ⟨x, hx, rfl⟩; exact ⟨x, (List.mem_filter.1 hx).1, rfl⟩
  · obtain ⟨h1, h2⟩ := List.mem_filter.1 hy
    rw [atKey_del_other (keyU (by simpa using h2)), h.at_ y h1]
  · have hs := size_del (k := .int .u64 id) h.tidy
    rw [h.has_, h.size_] at hs
    by_cases hk : (L.any fun x => x.id == id) = true
    · rw [if_pos hk] at hs
      obtain ⟨x, hx, rfl⟩ := any_id.1 hk
      have := filter_len_del h.nd hx
      omega
    · rw [if_neg hk] at hs
      have hf : (L.filter fun y => y.id != id) = L := List.filter_eq_self.2 fun y hy => by
        have : y.id ≠ id := fun q => hk (any_id.2 ⟨y, hy, q⟩)
        simpa using this
      rw [hf]
      omega
/-- What a look-up tells. -/
def getN (L : List Nm) (id : Int) : Nm := (L.find? fun x => x.id == id).getD ⟨id, 0, 0⟩
theorem find_id : ∀ {L : List Nm} (_ : L.Pairwise fun x y => x.id ≠ y.id) {x : Nm} (_ : x ∈ L), (L.find? fun y => y.id == x.id) = some x
  | a :: L, hnd, x, hx => by
    obtain ⟨h1, h2⟩ := List.pairwise_cons.1 hnd
    rw [List.find?_cons]
    by_cases e : a.id = x.id
    · have : a = x := by
        rcases List.mem_cons.1 hx with q | q
        · exact q.symm
        · exact absurd e (h1 x q)
      subst this
      simp
    · have hxL : x ∈ L := by
        rcases List.mem_cons.1 hx with q | q
        · exact absurd (by rw [q]) e
        · exact q
      rw [show (a.id == x.id) = false by simpa using e]
      exact find_id h2 hxL
theorem getN_of {L : List Nm} (hnd : L.Pairwise fun x y => x.id ≠ y.id) {x : Nm} (hx : x ∈ L) : getN L x.id = x := by unfold getN; rw [find_id hnd hx]; rfl
theorem getN_no {L : List Nm} {id : Int} (h : ∀ x ∈ L, x.id ≠ id) : getN L id = ⟨id, 0, 0⟩ := by
  unfold getN
  rw [List.find?_eq_none.2 (fun x hx => by simpa using h x hx)]
  rfl
theorem RefM.get {D : DataW Unit} {L : List Nm} (h : RefM D L) (id : Int) : D.atKey (.int .u64 id) (refD ⟨0, 0, 0⟩) = refD (getN L id) := by
  by_cases hk : (L.any fun x => x.id == id) = true
  · obtain ⟨x, hx, rfl⟩ := any_id.1 hk
    rw [h.at_ x hx, getN_of h.nd hx]
  · rw [getN_no (fun x hx q => hk (any_id.2 ⟨x, hx, q⟩))]
    have hf : has D (.int .u64 id) = false := by rw [h.has_]; exact Bool.eq_false_iff.2 hk
    exact atKey_of_not_has hf _
/-- Those of one shard. -/
def shL (sh : Int → Nat) (E : List Nm) (i : Nat) : List Nm := E.filter fun x => sh x.id == i
theorem shL_mem {sh : Int → Nat} {E : List Nm} {i : Nat} {x : Nm} : x ∈ shL sh E i ↔ x ∈ E ∧ sh x.id = i := by unfold shL; rw [List.mem_filter]; simp
theorem shL_snoc (sh : Int → Nat) (E : List Nm) (x : Nm) (i : Nat) : shL sh (E ++ [x]) i = if sh x.id = i then shL sh E i ++ [x] else shL sh E i := by
  unfold shL
  rw [List.filter_append]
  by_cases h : sh x.id = i
  · rw [if_pos h]; simp [h]
  · rw [if_neg h]; simp [h]
theorem shL_del (sh : Int → Nat) (E : List Nm) (id : Int) (i : Nat) : shL sh (E.filter fun x => x.id != id) i = if sh id = i then (shL sh E i).filter fun x => x.id != id else shL sh E i := by
  unfold shL
  by_cases h : sh id = i
  · rw [if_pos h, List.filter_filter, List.filter_filter]
    exact List.filter_congr fun x _ => Bool.and_comm _ _
  · rw [if_neg h, List.filter_filter]
    refine List.filter_congr fun x _ => ?_
    by_cases e : x.id = id
    · subst e
      simp [h]
    · simp [e]
/-- Those of the first shards. -/
def upL (sh : Int → Nat) (E : List Nm) (k : Nat) : List Nm := E.filter fun x => decide (sh x.id < k)
theorem upL_zero (sh : Int → Nat) (E : List Nm) : upL sh E 0 = [] := by unfold upL; simp
theorem upL_all {sh : Int → Nat} {k : Nat} (h : ∀ i, sh i < k) (E : List Nm) : upL sh E k = E := List.filter_eq_self.2 fun x _ => decide_eq_true (h x.id)
theorem upL_succ (sh : Int → Nat) : ∀ (E : List Nm) (k : Nat), (upL sh E k ++ shL sh E k).Perm (upL sh E (k + 1))
  | [], _ => .refl _
  | x :: E, k => by
    have ih := upL_succ sh E k
    unfold upL shL at *
    rw [List.filter_cons, List.filter_cons, List.filter_cons]
    by_cases h1 : sh x.id < k
    · have h2 : ¬ sh x.id = k := by omega
      rw [if_pos (by simpa using h1), if_neg (by simpa using h2), if_pos (by simp; omega)]
      exact ih.cons x
    · by_cases h2 : sh x.id = k
      · rw [if_neg (by simpa using h1), if_pos (by simpa using h2), if_pos (by simp; omega)]
        exact List.perm_middle.trans (ih.cons x)
      · rw [if_neg (by simpa using h1), if_neg (by simpa using h2), if_neg (by simp; omega)]
        exact ih
theorem upL_len (sh : Int → Nat) (E : List Nm) (k : Nat) : (upL sh E k).length + (shL sh E k).length = (upL sh E (k + 1)).length := by
  rw [← (upL_succ sh E k).length_eq, List.length_append]
/-- One more has come out of a map. -/
theorem left_step : ∀ {L : List Nm} (_ : L.Pairwise fun x y => x.id ≠ y.id) {lf : Int → Bool} {x : Nm} (_ : x ∈ L) (_ : lf x.id = true), ((L.filter fun y => !lf y.id) ++ [x]).Perm (L.filter fun y => !(lf y.id && !(y.id == x.id)))
  | a :: L, hnd, lf, x, hx, hl => by
    obtain ⟨h1, h2⟩ := List.pairwise_cons.1 hnd
    rw [List.filter_cons, List.filter_cons]
    by_cases e : a.id = x.id
    · have : a = x := by
        rcases List.mem_cons.1 hx with q | q
        · exact q.symm
        · exact absurd e (h1 x q)
      subst this
      rw [if_neg (by simp [hl]), if_pos (by simp)]
      have hf : (L.filter fun y => !(lf y.id && !(y.id == a.id))) = L.filter fun y => !lf y.id := List.filter_congr fun y hy => by
        have : (y.id == a.id) = false := by simpa using fun q : y.id = a.id => h1 y hy q.symm
        simp [this]
      rw [hf]
      exact List.perm_append_comm
    · have hxL : x ∈ L := by
        rcases List.mem_cons.1 hx with q | q
        · exact absurd (by rw [q]) e
        · exact q
      have ih := left_step h2 hxL hl
      have e2 : (a.id == x.id) = false := by simpa using e
      cases hla : lf a.id
      · rw [if_pos (by simp), if_pos (by simp)]
        exact ih.cons a
      · rw [if_neg (by simp), if_neg (by simp [e2])]
        exact ih
end Go.Proofs.Ythcmajeamandfaa
