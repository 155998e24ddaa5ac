/- Getter: vectors cloned. -/
import Derived.Test.YtkhnnjeinpojkaaGtW
import Derived.Test.YtkhnnjeinpojkaaTch
import Derived.Lib.SliceRun
import Derived.Laws.AppendOwnNone
namespace Go.Proofs.Ytkhnnjeinpojkaa
open Go.RowKit
/-- A value that is a vector at hand. -/
def VV (w : World) (V : Value) (vec : List Int) : Prop := ∃ A n c, V = .slice A n c ∧ n ≤ 1048576 ∧ (A = none → n = 0 ∧ c = 0) ∧ Rd w w.heap.size A n (vec.map (.int .i32))
theorem VV.below {w w' : World} {V : Value} {vec : List Int} (h : VV w V vec) (hb : Below w.heap.size w w') : VV w' V vec := by
  obtain ⟨A, n, c, e, h1, h2, h3⟩ := h
  exact ⟨A, n, c, e, h1, h2, (h3.below hb).more hb.size⟩
theorem VV.nil_ (w : World) : VV w (.slice none 0 0) [] := ⟨none, 0, 0, rfl, by decide, fun _ => ⟨rfl, rfl⟩, Rd.nil_⟩
theorem info_i32 : (Try.prog.info? 21).map (fun i => (i.zero, i.size, i.bytes)) = some (some (.int .i32 0), 1, 4) := by kernel_rfl
theorem own_vv {w : World} {base t n : Nat} {v : Value} {vec : List Int} (h : w.ownsRow base t 1 v n (vec.map (.int .i32))) (hn : n ≤ 1048576) : VV w v vec := by
  have h' := h
  rcases h.2 with ⟨rfl, rfl⟩ | ⟨g, cap, cur, rfl, _⟩
  · exact ⟨none, 0, 0, rfl, hn, fun _ => ⟨rfl, rfl⟩, Rd.of_own h'⟩
  · exact ⟨_, _, _, rfl, hn, (fun e => by cases e), Rd.of_own h'⟩
/-- A value's elements stand at blocks from B on. -/
def Fresh (B : Nat) (V : Value) : Prop := ∀ b o m n c, V = .slice (some ⟨b, o, m⟩) n c → 0 < n → B ≤ b
/-- A value's elements do not stand at T. -/
def NotAt (T : Nat) (V : Value) : Prop := ∀ b o m n c, V = .slice (some ⟨b, o, m⟩) n c → 0 < n → b ≠ T
theorem Fresh.notAt {B T : Nat} {V : Value} (h : Fresh B V) (hT : T < B) : NotAt T V := fun b o m n c e h0 q => by have := h b o m n c e h0; omega
theorem NotAt.nil_ (T n c : Nat) : NotAt T (.slice none n c) := fun b o m n c e => by simp at e
theorem VV.notAt {w : World} {V : Value} {vec : List Int} (h : VV w V vec) {T : Nat} (hT : w.heap.size ≤ T) : NotAt T V := by
  obtain ⟨A, n, c, rfl, _, _, hr⟩ := h
  intro b o m n' c' e h0 q
  injection e with e1 e2 e3
  subst e2
  obtain ⟨b', o', e', hb, _⟩ := hr.2 h0
  rw [e'] at e1
  injection e1 with e1
  injection e1 with e1
  omega
theorem VV.tch {S : Nat → Prop} {w w' : World} {T : Nat} {V : Value} {vec : List Int} (h : VV w V vec) (ht : Tch S w w') (hn : NotAt T V) (hS : ∀ k, k < w.heap.size → S k → k = T) : VV w' V vec := by
  obtain ⟨A, n, c, rfl, h1, h2, hr⟩ := h
  refine ⟨A, n, c, rfl, h1, h2, hr.1, fun h0 => ?_⟩
  obtain ⟨b, o, e, hb, hc⟩ := hr.2 h0
  subst e
  have hnS : ¬ S b := fun q => hn b o none n c rfl h0 (hS b hb q)
  exact ⟨b, o, rfl, Nat.lt_of_lt_of_le hb ht.size, fun k u hu => (ht.cell (p := ⟨b, o + k, none⟩) hb hnS).trans (hc k u hu)⟩
theorem own_fresh {w : World} {base t n : Nat} {v : Value} {vs : List Value} (h : w.ownsRow base t 1 v n vs) : Fresh base v := by
  intro b o m n' c' e h0
  rcases h.2 with ⟨rfl, rfl⟩ | ⟨g, cap, cur, rfl, hg, _⟩
  · simp at e
  · injection e with e1 _ _
    injection e1 with e1
    injection e1 with e1
    omega
/-- The facts that an append of all of a vector to nothing asks. -/
theorem clone_facts {w : World} {b o n : Nat} {vec : List Int} (hr : Rd w w.heap.size (some ⟨b, o, none⟩) n (vec.map (.int .i32))) (_hn : n ≤ 1048576) :
    (vec.map (Value.int .i32)).length = n * 1 ∧ (∀ j u, (vec.map (Value.int .i32))[j]? = some u → (w.alloc (.cells #[] 21)).cell? (Addr.add ⟨b, o, none⟩ j) = some u) ∧ (∀ u ∈ vec.map (Value.int .i32), u.oneCell' = true) := by
  have hl : vec.length = n := hr.lenI
  have hb0 : Below w.heap.size w (w.alloc (.cells #[] 21)) := (Below.refl _ w).alloc (Nat.le_refl _) _
  refine ⟨by simpa using hl, fun j u hu => ?_, fun u hu => ?_⟩
  · have hj : j < n := by
      have := (List.getElem?_eq_some_iff.1 hu).1
      rw [List.length_map, hl] at this
      exact this
    obtain ⟨b', o', q1, q2, q3⟩ := hr.atI hj
    injection q1 with q1
    injection q1 with q1 q1'
    subst q1 q1'
    rw [Addr.add_lit]
    refine ((hb0.cell (p := ⟨b, o + j, none⟩) q2).trans q3).trans ?_
    rw [List.getElem?_map, List.getElem?_eq_getElem (by rw [hl]; exact hj)] at hu
    rw [← hu]
    simp [ig, List.getD_eq_getElem?_getD, List.getElem?_eq_getElem (show j < vec.length by rw [hl]; exact hj)]
  · obtain ⟨x, _, rfl⟩ := List.mem_map.1 hu
    rfl
set_option maxRecDepth 100000 in
theorem clone32 {w : World} {V : Value} {vec : List Int} (h : VV w V vec) :
    Calls Try.prog 61 #[V] w fun e w' => (∃ V', e = .returned V' ∧ VV w' V' vec ∧ Fresh w.heap.size V') ∧ Below w.heap.size w w' := by
  obtain ⟨A, n, c, rfl, hn, hnil, hr⟩ := h
  have ez := fun (w : World) (A : Option Addr) (l c : Nat) => Lib.run_eql_slice_nil (P := Try.prog) w 23 21 A l c 0 0 Try.underlying23
  cases A with
  | none =>
    obtain ⟨rfl, rfl⟩ := hnil rfl
    have hv : Hid (VV w (.slice none 0 0) vec) := ⟨none, 0, 0, rfl, by decide, fun _ => ⟨rfl, rfl⟩, hr⟩
    clear hr hnil
    go_enter Try.func61, Try.ntmps61
    go_wp2
    go_ret
    exact ⟨⟨_, rfl, hv.out, fun b o m n c e => by simp at e⟩, Below.refl _ _⟩
  | some a =>
    by_cases h0 : n = 0
    · subst h0
      have hl : vec = [] := List.eq_nil_of_length_eq_zero hr.lenI
      subst hl
      have hb0 : Hid (Below w.heap.size w (w.alloc (.cells #[] 21))) := (Below.refl _ w).alloc (Nat.le_refl _) _
      clear hr hnil hn
      go_enter Try.func61, Try.ntmps61
      go_wp2
      go_ret
      exact ⟨⟨_, rfl, ⟨_, 0, 0, rfl, by decide, (fun e => by cases e), ⟨rfl, fun h => absurd h (by omega)⟩⟩, fun b o m n c e h0 => by injection e with _ e2 _; omega⟩, hb0.out⟩
    · obtain ⟨b, o, e, _, _⟩ := hr.atI (k := 0) (by omega)
      injection e with e
      subst e
      obtain ⟨f1, f2, f3⟩ := clone_facts hr hn
      obtain ⟨i, hi, hz, hz1, hz2⟩ := info_parts info_i32
      have hb0 : Below w.heap.size w (w.alloc (.cells #[] 21)) := (Below.refl _ w).alloc (Nat.le_refl _) _
      have hown : Hid ((w.alloc (.cells #[] 21)).ownsRow w.heap.size 21 1 (.slice (some ⟨w.heap.size, 0, none⟩) 0 0) 0 []) :=
        ⟨rfl, Or.inr ⟨w.heap.size, 0, #[], rfl, Nat.le_refl _, heap_alloc_new w _, Nat.le_refl _, Nat.zero_le _, rfl, rfl⟩⟩
      have F1 := Lib.hid f1
      have F2 := Lib.hid f2
      have F3 := Lib.hid f3
      have h63 : Hid (0 + n ≤ maxLen) := by show _ ≤ _; unfold maxLen; omega
      have hby : Hid ((0 + n) * 4 ≤ 140737488355328) := by show _ ≤ _; omega
      have HN := Lib.hid hn
      have HB := Lib.hid hb0
      clear hr hb0 hn f1 f2 f3 hnil h0
      go_enter Try.func61, Try.ntmps61
      go_wp2_with (at_builtin; refine wpList_append_own _ rfl (.tmp 5) (.tmp 6) 23 rfl w.heap.size 21 i (.int .i32 0) 1 4 Try.underlying23 hi hz hz1 hz2 rfl (by decide) (.slice (some ⟨w.heap.size, 0, none⟩) 0 0) 0 [] (by simp [Act.eval]) hown.out ⟨b, o, none⟩ n c (vec.map (.int .i32)) (by simp [Act.eval]) F1.out F2.out F3.out h63.out hby.out HB.out.size ?_; intro v' w' ho hg _; replace ho := Lib.hid ho; replace hg := Lib.hid hg)
      go_ret
      have ho' := ho.out
      rw [List.nil_append, Nat.zero_add] at ho'
      exact ⟨⟨_, rfl, own_vv ho' HN.out, own_fresh ho'⟩, HB.out.grown hg.out HB.out.size (fun k hk => by injection hk with hk; exact Nat.le_of_eq hk)⟩
end Go.Proofs.Ytkhnnjeinpojkaa
