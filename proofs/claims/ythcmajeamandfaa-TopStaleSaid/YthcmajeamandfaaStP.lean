/- Stale refs: plain law. -/
import Derived.Test.YthcmajeamandfaaArC
import Derived.Test.YthcmajeamandfaaIdL
namespace Go.Proofs.Ythcmajeamandfaa
/-- Slots, refs and stale refs, between two changes. -/
structure StI (n : Nat) (st gn : Nat → Int) (fr : List Int) (ct : Nat → Int) (E : List Nm) (stale : List Nm) (i : Nat) : Prop where
  c0 : ct 0 = (n : Int) - (E.length : Int)
  c1 : ct 1 = 0
  c2 : ct 2 = (E.length : Int)
  c3 : ct 3 = 0
  c4 : ct 4 = 0
  frl : fr.length + E.length = n
  live : ∀ x ∈ E, ∃ k : Nat, x.slot = (k : Int) ∧ 1 ≤ k ∧ k ≤ n ∧ st k = 2 ∧ gn k = x.gen
  sl : E.Pairwise fun x y => x.slot ≠ y.slot
  free : ∀ z ∈ fr, ∃ k : Nat, z = (k : Int) ∧ 1 ≤ k ∧ k ≤ n ∧ st k = 0
  nd : fr.Nodup
  gb : ∀ k, 0 ≤ gn k ∧ gn k ≤ (i : Int)
  old : ∀ y ∈ stale, ∃ k : Nat, y.slot = (k : Int) ∧ y.gen < gn k
  stl : stale.length ≤ i
section
variable {n : Nat} {st gn : Nat → Int} {fr : List Int} {ct : Nat → Int} {E stale : List Nm} {i : Nat}
theorem StI.start (n : Nat) : StI n (fun _ => 0) (fun _ => 0) (frI n n) (upA (fun _ => 0) 0 ((n : Nat) : Int)) [] [] 0 where
  c0 := by simp [upA]
  c1 := rfl
  c2 := rfl
  c3 := rfl
  c4 := rfl
  frl := by rw [frI_len]; rfl
  live := by simp
  sl := List.Pairwise.nil
  free z hz := by
    obtain ⟨j, hj, rfl⟩ := List.mem_map.1 hz
    rw [List.mem_range] at hj
    exact ⟨n - j, by omega, by omega, by omega, rfl⟩
  nd := by
    unfold frI
    rw [List.nodup_iff_pairwise_ne, List.pairwise_map]
    exact (List.nodup_range (n := n)).imp fun h q => h (by omega)
  gb _ := ⟨Int.le_refl _, Int.le_refl _⟩
  old := by simp
  stl := Nat.le_refl _
theorem StI.more (h : StI n st gn fr ct E stale i) : StI n st gn fr ct E stale (i + 1) :=
  { h with gb := fun k => ⟨(h.gb k).1, by have := (h.gb k).2; omega⟩, stl := Nat.le_succ_of_le h.stl }
/-- A live slot is not free. -/
theorem StI.apart (h : StI n st gn fr ct E stale i) {x : Nm} (hx : x ∈ E) : x.slot ∉ fr := fun q => by
  obtain ⟨k, e1, _, _, e2, _⟩ := h.live x hx
  obtain ⟨k', e3, _, _, e4⟩ := h.free _ q
  obtain rfl : k = k' := by omega
  omega
/-- An id is dropped, its slot freed. -/
theorem StI.drop (h : StI n st gn fr ct E stale i) (hnd : E.Pairwise fun x y => x.id ≠ y.id) {x : Nm} (hx : x ∈ E) {k : Nat} (hk : x.slot = (k : Int)) {st' gn' : Nat → Int} {ct' : Nat → Int}
    (hst : ∀ j, st' j = if j = k then 0 else st j) (hgn : ∀ j, gn' j = if j = k then gn j + 1 else gn j) (hct : ct' 0 = ct 0 + 1 ∧ ct' 1 = ct 1 ∧ ct' 2 = ct 2 - 1 ∧ ct' 3 = ct 3 ∧ ct' 4 = ct 4) :
    StI n st' gn' (fr ++ [(k : Int)]) ct' (dropL E x.id) (stale ++ [⟨0, x.slot, x.gen⟩]) (i + 1) := by
  have hlen := filter_len_del hnd hx
  obtain ⟨k', e1, e2, e3, e4, e5⟩ := h.live x hx
  obtain rfl : k = k' := by omega
  refine ⟨by rw [hct.1, h.c0]; unfold dropL; omega, by rw [hct.2.1, h.c1], by rw [hct.2.2.1, h.c2]; unfold dropL; omega, by rw [hct.2.2.2.1, h.c3], by rw [hct.2.2.2.2, h.c4], ?_, ?_, h.sl.filter _, ?_, ?_, ?_, ?_, ?_⟩
  · have := h.frl
    rw [List.length_append, List.length_singleton]
    unfold dropL
    omega
  · intro y hy
    obtain ⟨hy1, hy2⟩ := List.mem_filter.1 hy
    obtain ⟨j, q1, q2, q3, q4, q5⟩ := h.live y hy1
    have hne : j ≠ k := fun e => by
      subst e
      have hyx : y ≠ x := fun e => by subst e; simp at hy2
      have := h.sl
      rcases List.mem_iff_getElem.1 hx with ⟨a, ha, ea⟩
      rcases List.mem_iff_getElem.1 hy1 with ⟨b, hb, eb⟩
      have hab : a ≠ b := fun q => hyx (by subst q; rw [← ea, ← eb])
      rw [List.pairwise_iff_getElem] at this
      rcases Nat.lt_or_gt_of_ne hab with q | q
      · exact this a b ha hb q (by rw [ea, eb, q1, hk])
      · exact this b a hb ha q (by rw [ea, eb, q1, hk])
    exact ⟨j, q1, q2, q3, by rw [hst, if_neg hne]; exact q4, by rw [hgn, if_neg hne]; exact q5⟩
  · intro z hz
    rcases List.mem_append.1 hz with q | q
    · obtain ⟨j, q1, q2, q3, q4⟩ := h.free z q
      exact ⟨j, q1, q2, q3, by rw [hst]; split; rfl; exact q4⟩
    · rw [List.mem_singleton] at q
      exact ⟨k, q, e2, e3, by rw [hst, if_pos rfl]⟩
  · rw [List.nodup_append]
    exact ⟨h.nd, by simp, fun a ha b hb e => by
      rw [List.mem_singleton] at hb
      subst e; subst hb
      exact h.apart hx (by rw [hk]; exact ha)⟩
  · intro j
    have := h.gb j
    rw [hgn]
    split <;> omega
  · intro y hy
    rcases List.mem_append.1 hy with q | q
    · obtain ⟨j, q1, q2⟩ := h.old y q
      exact ⟨j, q1, by rw [hgn]; split <;> omega⟩
    · rw [List.mem_singleton] at q
      subst q
      exact ⟨k, hk, by rw [hgn, if_pos rfl, e5]; show x.gen < x.gen + 1; omega⟩
  · rw [List.length_append, List.length_singleton]
    exact Nat.succ_le_succ h.stl
/-- An id is put at the last free slot. -/
theorem StI.put {k : Nat} (h : StI n st gn (fr ++ [(k : Int)]) ct E stale i) {id : Int} {st' : Nat → Int} {ct' : Nat → Int}
    (hst : ∀ j, st' j = if j = k then 2 else st j) (hct : ct' 0 = ct 0 - 1 ∧ ct' 1 = ct 1 ∧ ct' 2 = ct 2 + 1 ∧ ct' 3 = ct 3 ∧ ct' 4 = ct 4) :
    StI n st' gn fr ct' (E ++ [⟨id, k, gn k⟩]) stale (i + 1) := by
  have hap : ∀ x ∈ E, x.slot ≠ (k : Int) := fun x hx q => h.apart hx (by rw [q]; simp)
  obtain ⟨k', e1, e2, e3, e4⟩ := h.free (k : Int) (by simp)
  obtain rfl : k = k' := by omega
  have hnd := h.nd
  rw [List.nodup_append] at hnd
  obtain ⟨n1, _, n2⟩ := hnd
  have hl : (E ++ [(⟨id, k, gn k⟩ : Nm)]).length = E.length + 1 := by simp
  refine ⟨by rw [hct.1, h.c0, hl]; omega, by rw [hct.2.1, h.c1], by rw [hct.2.2.1, h.c2, hl]; omega, by rw [hct.2.2.2.1, h.c3], by rw [hct.2.2.2.2, h.c4], ?_, ?_, ?_, ?_, n1, ?_, h.old, ?_⟩
  · have := h.frl
    rw [List.length_append, List.length_singleton] at this
    rw [hl]
    omega
  · intro y hy
    rcases List.mem_append.1 hy with q | q
    · obtain ⟨j, q1, q2, q3, q4, q5⟩ := h.live y q
      have hne : j ≠ k := fun e => hap y q (by rw [q1, e])
      exact ⟨j, q1, q2, q3, by rw [hst, if_neg hne]; exact q4, q5⟩
    · rw [List.mem_singleton] at q
      subst q
      exact ⟨k, rfl, e2, e3, by rw [hst, if_pos rfl], rfl⟩
  · rw [List.pairwise_append]
    exact ⟨h.sl, by simp, fun a ha b hb => by rw [List.mem_singleton] at hb; subst hb; exact hap a ha⟩
  · intro z hz
    obtain ⟨j, q1, q2, q3, q4⟩ := h.free z (by simp [hz])
    have hne : j ≠ k := fun e => n2 z hz (k : Int) (by simp) (by rw [q1, e])
    exact ⟨j, q1, q2, q3, by rw [hst, if_neg hne]; exact q4⟩
  · intro j
    have := h.gb j
    omega
  · exact Nat.le_succ_of_le h.stl
/-- A slot is taken, and given back. -/
theorem StI.back {k : Nat} (h : StI n st gn (fr ++ [(k : Int)]) ct E stale i) {st' gn' : Nat → Int} {ct' : Nat → Int}
    (hst : ∀ j, st' j = if j = k then 0 else st j) (hgn : ∀ j, gn' j = if j = k then gn j + 1 else gn j) (hct : ct' 0 = ct 0 ∧ ct' 1 = ct 1 ∧ ct' 2 = ct 2 ∧ ct' 3 = ct 3 ∧ ct' 4 = ct 4) :
    StI n st' gn' (fr ++ [(k : Int)]) ct' E stale (i + 1) := by
  have hap : ∀ x ∈ E, x.slot ≠ (k : Int) := fun x hx q => h.apart hx (by rw [q]; simp)
  refine ⟨by rw [hct.1, h.c0], by rw [hct.2.1, h.c1], by rw [hct.2.2.1, h.c2], by rw [hct.2.2.2.1, h.c3], by rw [hct.2.2.2.2, h.c4], h.frl, ?_, h.sl, ?_, h.nd, ?_, ?_, Nat.le_succ_of_le h.stl⟩
  · intro y hy
    obtain ⟨j, q1, q2, q3, q4, q5⟩ := h.live y hy
    have hne : j ≠ k := fun e => hap y hy (by rw [q1, e])
    exact ⟨j, q1, q2, q3, by rw [hst, if_neg hne]; exact q4, by rw [hgn, if_neg hne]; exact q5⟩
  · intro z hz
    obtain ⟨j, q1, q2, q3, q4⟩ := h.free z hz
    exact ⟨j, q1, q2, q3, by rw [hst]; split; rfl; exact q4⟩
  · intro j
    have := h.gb j
    rw [hgn]
    split <;> omega
  · intro y hy
    obtain ⟨j, q1, q2⟩ := h.old y hy
    exact ⟨j, q1, by rw [hgn]; split <;> omega⟩
end
end Go.Proofs.Ythcmajeamandfaa
