/- What is in limbo is told: Limbo. -/
import Derived.Test.YtgcoecibhonfnaaEpR
import Derived.Lib.SliceRun
namespace Go.Proofs.Ytgcoecibhonfnaa
open Go.RowKit
set_option maxRecDepth 100000 in
theorem clone_nil (w : World) :
    Calls Try.prog 24 #[.slice none 0 0] w fun e w' => e = .returned (.slice none 0 0) ∧ w = w' := by
  have ez := fun (w : World) (A : Option Addr) (l c : Nat) => Lib.run_eql_slice_nil (P := Try.prog) w 35 49 A l c 0 0 Try.underlying35
  go_enter Try.func24, Try.ntmps24
  go_wp2
  go_ret
  exact ⟨rfl, rfl⟩
theorem own_out {w : World} {base t n : Nat} {v : Value} {fl : List Int} (h : w.ownsRow base t 2 v n (fl.map (.int .i64))) : ∃ A c, v = .slice A n c ∧ Rd2 w w.heap.size A n fl := by
  have h' := h
  rcases h.2 with ⟨rfl, rfl⟩ | ⟨g, cap, cur, rfl, _⟩
  · exact ⟨_, _, rfl, Rd2.of_own h'⟩
  · exact ⟨_, _, rfl, Rd2.of_own h'⟩
set_option maxRecDepth 100000 in
theorem clone_some (w : World) (b n d : Nat) (fl : List Int) (hr : Rd2 w w.heap.size (some ⟨b, 0, none⟩) n fl) (hn : n ≤ 1048576) :
    Calls Try.prog 24 #[.slice (some ⟨b, 0, none⟩) n d] w fun e w' => (∃ A c, e = .returned (.slice A n c) ∧ Rd2 w' w'.heap.size A n fl) ∧ Below w.heap.size w w' := by
  have ez := fun (w : World) (A : Option Addr) (l c : Nat) => Lib.run_eql_slice_nil (P := Try.prog) w 35 49 A l c 0 0 Try.underlying35
  obtain ⟨ri, rz, ri1, rz1, ri2, ri3, rz2⟩ := ref_info
  have hb0 : Below w.heap.size w (w.alloc (.cells #[] 49)) := (Below.refl _ w).alloc (Nat.le_refl _) _
  have hown : Hid ((w.alloc (.cells #[] 49)).ownsRow w.heap.size 49 2 (.slice (some ⟨w.heap.size, 0, none⟩) 0 0) 0 []) :=
    ⟨rfl, Or.inr ⟨w.heap.size, 0, #[], rfl, Nat.le_refl _, heap_alloc_new w _, Nat.le_refl _, Nat.zero_le _, rfl, rfl⟩⟩
  have hlen : Hid ((fl.map (Value.int .i64)).length = n * 2) := by show _ = _; simpa using hr.1
  have hnew : Hid (∀ j u, (fl.map (Value.int .i64))[j]? = some u → (w.alloc (.cells #[] 49)).cell? (Addr.add ⟨b, 0, none⟩ j) = some u) := by
    intro j u hu
    have hj : j < n * 2 := by
      have := (List.getElem?_eq_some_iff.1 hu).1
      rw [List.length_map, hr.1] at this
      exact this
    obtain ⟨b', o, q1, q2, q3⟩ := hr.2 (by omega)
    injection q1 with q1
    injection q1 with q1 q1' _
    subst q1 q1'
    rw [Addr.add_lit]
    refine ((hb0.cell (p := ⟨b, 0 + j, none⟩) q2).trans (q3 j hj)).trans ?_
    rw [List.getElem?_map, List.getElem?_eq_getElem (by rw [hr.1]; exact hj)] at hu
    rw [← hu]
    simp [ig, List.getD_eq_getElem?_getD, List.getElem?_eq_getElem (show j < fl.length by rw [hr.1]; exact hj)]
  have hone : Hid (∀ u ∈ fl.map (Value.int .i64), u.oneCell' = true) := by
    intro u hu
    obtain ⟨x, _, rfl⟩ := List.mem_map.1 hu
    rfl
  have h63 : Hid (0 + n ≤ maxLen) := by show _ ≤ _; unfold maxLen; omega
  have hby : Hid ((0 + n) * 16 ≤ 140737488355328) := by show _ ≤ _; omega
  have HB := Lib.hid hb0
  clear hr hb0 hn
  go_enter Try.func24, Try.ntmps24
  go_wp2_with (at_builtin; refine wpList_append_own _ rfl (.tmp 5) (.tmp 6) 35 rfl w.heap.size 49 ri rz 2 16 Try.underlying35 ri1 rz1 ri2 ri3 rz2 (by decide) (.slice (some ⟨w.heap.size, 0, none⟩) 0 0) 0 [] (by simp [Act.eval]) hown.out ⟨b, 0, none⟩ n d (fl.map (.int .i64)) (by simp [Act.eval]) hlen.out hnew.out hone.out h63.out hby.out HB.out.size ?_; intro v' w' ho hg _; replace ho := Lib.hid ho; replace hg := Lib.hid hg)
  go_ret
  have ho' := ho.out
  rw [List.nil_append, Nat.zero_add] at ho'
  obtain ⟨A, c, rfl, hr⟩ := own_out ho'
  exact ⟨⟨A, c, rfl, hr⟩, HB.out.grown hg.out HB.out.size (fun k hk => by injection hk with hk; exact Nat.le_of_eq hk)⟩
theorem ep_limbo_nil (w : World) :
    Calls Try.prog 14 #[.pointer none] w fun e w' => e = .returned (.slice none 0 0) ∧ w = w' := by
  go_enter Try.func14, Try.ntmps14
  go_wp2
  go_ret
  exact ⟨rfl, rfl⟩
set_option maxRecDepth 100000 in
theorem ep_limbo (p : EpP) (s : EpS) (base : Nat) (w : World) (h : EpAt w base p s) (hn : s.k ≤ 1048576) :
    Calls Try.prog 14 #[.pointer (some ⟨p.g, 0, none⟩)] w fun e w' => (∃ A c, e = .returned (.slice A s.k c) ∧ Rd2 w' w'.heap.size A s.k s.fl) ∧ Below w.heap.size w w' := by
  have c2 := h.clk.cell 2
  have hc : Hid (Calls Try.prog 24 #[.slice p.B s.k p.d] w fun e w' => (∃ A c, e = .returned (.slice A s.k c) ∧ Rd2 w' w'.heap.size A s.k s.fl) ∧ Below w.heap.size w w') := by
    have hr := Rd2.of_own h.lim
    rcases h.lim.2 with ⟨h1, h2⟩ | ⟨g, cap, cur, h1, _⟩
    · injection h1 with h1 h1' h1''
      rw [h1, h1'] at hr
      rw [h1, h1', h1'']
      refine (clone_nil w).mono ?_
      rintro e w' ⟨rfl, rfl⟩
      exact ⟨⟨_, _, rfl, hr⟩, Below.refl _ _⟩
    · injection h1 with h1 _ _
      rw [h1] at hr
      rw [h1]
      exact clone_some w g s.k p.d s.fl hr hn
  clear h hn
  go_enter Try.func14, Try.ntmps14
  go_wp2_with (go_at_call 24; refine hc.out.mono ?_; rintro e w' ⟨⟨A, c, rfl, hr⟩, hb⟩)
  go_ret
  exact ⟨⟨A, c, rfl, hr⟩, hb⟩
end Go.Proofs.Ytgcoecibhonfnaa
