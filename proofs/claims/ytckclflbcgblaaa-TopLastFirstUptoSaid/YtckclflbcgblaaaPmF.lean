/- Planes: clones of rows of any type. -/
import Derived.Test.YtckclflbcgblaaaPmE
namespace Go.Proofs.Ytckclflbcgblaaa
open Go.RowKit Go.Maps Go.ChangeMaps Go.MapKept
theorem info_node : (Try.prog.info? 49).map (fun i => (i.zero, i.size, i.bytes)) = some (some (.agg #[.int .u64 0, .slice none 0 0, .int .u64 0, .int .i64 0, .slice none 0 0, .int .i64 0, .int .i64 0]), 7, 88) := by kernel_rfl
theorem info_ints : (Try.prog.info? 23).map (fun i => (i.zero, i.size, i.bytes)) = some (some (.slice none 0 0), 1, 24) := by kernel_rfl
theorem info_int32 : (Try.prog.info? 21).map (fun i => (i.zero, i.size, i.bytes)) = some (some (.int .i32 0), 1, 4) := by kernel_rfl
set_option maxRecDepth 100000 in
/-- 'append([]E{}, l...)'. -/
theorem wpList_cloneV {ops : Array Oper} {rest : List Oper} {o : Oper} {a : Act} {Q : Exit → Act → World → Prop} (hgd : o.guard = none) (s x : Operand) (T e sz bytes : Nat) (z : Value)
    (ho : o.op = .call { callee := .builtin .append, args := #[s, x], argTypes := #[T, T] })
    (hT : Try.prog.underlying T = some (.slice e)) (hinfo : (Try.prog.info? e).map (fun i => (i.zero, i.size, i.bytes)) = some (some z, sz, bytes)) (hzs : z.cells.size = sz) (hsz : 0 < sz)
    (w0 : World) (A : Option Addr) (n c : Nat) (xs : List Value) (hs : a.eval s = .slice (some ⟨w0.heap.size, 0, none⟩) 0 0) (hx : a.eval x = .slice A n c) (hl : xs.length = n * sz)
    (hr : 0 < n → ∃ b o, A = some ⟨b, o, none⟩ ∧ b < w0.heap.size ∧ ∀ j u, xs[j]? = some u → w0.cell? ⟨b, o + j, none⟩ = some u) (h1 : ∀ u ∈ xs, u.oneCell' = true)
    (hA : A = none → n = 0 ∧ c = 0) (hn : n ≤ 2097152) (hby : bytes ≤ 88)
    (h : ∀ A' c' w', w'.ownsRow w0.heap.size e sz (.slice A' n c') n xs → A' ≠ none → Below w0.heap.size w0 w' → wpList Try.prog ops Q rest (a.put o.dst (.slice A' n c')) w') :
    wpList Try.prog ops Q (o :: rest) a (w0.alloc (.cells #[] e)) := by
  obtain ⟨i, hi, hz, hz1, hz2⟩ := info_parts hinfo
  have hb0 := bel_box w0 (.cells #[] e)
  have hown : (w0.alloc (.cells #[] e)).ownsRow w0.heap.size e sz (.slice (some ⟨w0.heap.size, 0, none⟩) 0 0) 0 [] :=
    ⟨by simp, Or.inr ⟨w0.heap.size, 0, #[], rfl, Nat.le_refl _, heap_alloc_new w0 _, Nat.le_refl _, Nat.zero_le _, by simp, by simp⟩⟩
  cases A with
  | none =>
    obtain ⟨rfl, rfl⟩ := hA rfl
    have : xs = [] := List.eq_nil_of_length_eq_zero (by rw [hl, Nat.zero_mul])
    subst this
    refine wpList_append_own_none hgd s x T ho w0.heap.size e i sz hT hi _ 0 [] hs hown hx ?_
    exact h _ _ _ hown (by simp) hb0
  | some ad =>
    have hc : ∀ j u, xs[j]? = some u → (w0.alloc (.cells #[] e)).cell? (ad.add j) = some u := by
      intro j u hu
      have hj : j < n * sz := by
        have := (List.getElem?_eq_some_iff.1 hu).1
        rw [hl] at this
        exact this
      obtain ⟨b, o, e, hb, hcc⟩ := hr (Nat.pos_of_ne_zero (by rintro rfl; rw [Nat.zero_mul] at hj; omega))
      injection e with e
      subst e
      rw [Addr.add_lit]
      exact (hb0.cell (p := ⟨b, o + j, none⟩) hb).trans (hcc j u hu)
    refine wpList_append_own _ hgd s x T ho w0.heap.size e i z sz bytes hT hi hz hz1 hz2 hzs hsz _ 0 [] hs hown ad n c xs hx hl hc h1
      (by unfold maxLen; omega) (by rw [Nat.zero_add]; have := Nat.mul_le_mul hn hby; omega) hb0.size ?_
    intro v' w' ho' hg hnn
    rw [List.nil_append, Nat.zero_add] at ho'
    have hb' := hb0.grown hg hb0.size (fun k hk => by injection hk with hk; exact Nat.le_of_eq hk)
    rcases ho'.2 with ⟨rfl, e0⟩ | ⟨g, cap, cur, rfl, _⟩
    · exact absurd (hnn.1 rfl).1 (by intro q; injection q with q _ _; cases q)
    · exact h _ _ _ ho' (by simp) hb'
/-- What is told: a row of the call's own. -/
def RetV (e sz n : Nat) (A : Option Addr) (xs : List Value) (w : World) (en : Ending) (w' : World) : Prop := ∃ A' c', en = .returned (.slice A' n c') ∧ w'.ownsRow w.heap.size e sz (.slice A' n c') n xs ∧ (A' = none ↔ A = none) ∧ Below w.heap.size w w'
theorem rs_flat {w : World} {B : Nat} {A : Option Addr} {n sz : Nat} {css : List (List Value)} (h : Rs w B A n sz css) (hz : 0 < sz) : css.flatten.length = n * sz ∧ (0 < n → ∃ b o, A = some ⟨b, o, none⟩ ∧ b < B ∧ ∀ j u, css.flatten[j]? = some u → w.cell? ⟨b, o + j, none⟩ = some u) := by
  refine ⟨by rw [flat_len _ h.2.1, h.1], fun h0 => ?_⟩
  obtain ⟨b, o, e, hb, hc⟩ := h.flat hz h0
  exact ⟨b, o, e, hb, fun j u hj => by rw [← Addr.add_lit]; exact hc j u hj⟩
theorem flat_one (xs : List Value) : (xs.map fun v => [v]).flatten = xs := by induction xs with | nil => rfl | cons v r ih => simp [ih]
set_option maxRecDepth 100000 in
set_option maxHeartbeats 1000000 in
theorem sl_cloneN (A : Option Addr) (n c : Nat) (ns : List ND) (w : World) (hg : PgAt w w.heap.size A n c ns) :
    Calls Try.prog 42 #[.slice A n c] w (RetV 49 7 n A (flat ns) w) := by
  have ez := fun (w : World) (A : Option Addr) (l c : Nat) => Lib.run_eql_slice_nil (P := Try.prog) w 25 49 A l c 0 0 Try.underlying25
  have hn := hg.2.1
  obtain ⟨hl, hr⟩ := rs_flat hg.2.2.1 (by decide)
  have HL := Lib.hid hl
  have HR := Lib.hid hr
  have HA := Lib.hid hg.1
  have H1 : Hid (∀ u ∈ flat ns, u.oneCell' = true) := by
    intro u hu
    obtain ⟨c, hc, hu⟩ := List.mem_flatten.1 hu
    obtain ⟨d, _, rfl⟩ := List.mem_map.1 hc
    have := node_one d
    rw [Array.all_eq_true_iff_forall_mem] at this
    exact this u (by simpa using hu)
  clear hg hl hr
  cases A with
  | none =>
    obtain ⟨rfl, rfl⟩ := HA.out rfl
    have HE : Hid (flat ns = []) := List.eq_nil_of_length_eq_zero HL.out
    go_enter Try.func42, Try.ntmps42
    go_wp2
    go_ret
    exact ⟨_, _, rfl, by rw [HE.out]; exact World.ownsRow_nil _ _ _ _, Iff.rfl, Below.refl _ _⟩
  | some a =>
    go_enter Try.func42, Try.ntmps42
    go_wp2_with (at_builtin; refine wpList_cloneV rfl (.tmp 5) (.tmp 6) 25 49 7 88 _ rfl Try.underlying25 info_node rfl (by decide) w (some a) n c (flat ns) rfl rfl HL.out HR.out H1.out HA.out (by omega) (by decide) ?_; intro A' c' w1 ho hne hb; replace ho := Lib.hid ho; replace hb := Lib.hid hb; replace hne := Lib.hid hne)
    go_ret
    exact ⟨_, _, rfl, ho.out, ⟨fun h => absurd h hne.out, fun h => by cases h⟩, hb.out⟩
set_option maxRecDepth 100000 in
set_option maxHeartbeats 1000000 in
theorem sl_cloneL (A : Option Addr) (n c : Nat) (ls : List IS) (w : World) (hr : Rs w w.heap.size A n 1 (ls.map fun l => [l.v])) (hn : n ≤ 1048576) (hA : A = none → n = 0 ∧ c = 0) :
    Calls Try.prog 43 #[.slice A n c] w (RetV 23 1 n A (ls.map IS.v) w) := by
  have ez := fun (w : World) (A : Option Addr) (l c : Nat) => Lib.run_eql_slice_nil (P := Try.prog) w 47 23 A l c 0 0 Try.underlying47
  have he : (ls.map fun l => [l.v]).flatten = ls.map IS.v := by rw [← flat_one (ls.map IS.v), List.map_map]; rfl
  obtain ⟨hl, hr⟩ := rs_flat hr (by decide)
  rw [he] at hl hr
  have HL := Lib.hid hl
  have HR := Lib.hid hr
  have HA := Lib.hid hA
  have H1 : Hid (∀ u ∈ ls.map IS.v, u.oneCell' = true) := by
    intro u hu
    obtain ⟨l, _, rfl⟩ := List.mem_map.1 hu
    rfl
  clear hl hr hA he
  cases A with
  | none =>
    obtain ⟨rfl, rfl⟩ := HA.out rfl
    have HE : Hid (ls.map IS.v = []) := List.eq_nil_of_length_eq_zero HL.out
    go_enter Try.func43, Try.ntmps43
    go_wp2
    go_ret
    exact ⟨_, _, rfl, by rw [HE.out]; exact World.ownsRow_nil _ _ _ _, Iff.rfl, Below.refl _ _⟩
  | some a =>
    go_enter Try.func43, Try.ntmps43
    go_wp2_with (at_builtin; refine wpList_cloneV rfl (.tmp 5) (.tmp 6) 47 23 1 24 _ rfl Try.underlying47 info_ints rfl (by decide) w (some a) n c (ls.map IS.v) rfl rfl HL.out HR.out H1.out HA.out (by omega) (by decide) ?_; intro A' c' w1 ho hne hb; replace ho := Lib.hid ho; replace hb := Lib.hid hb; replace hne := Lib.hid hne)
    go_ret
    exact ⟨_, _, rfl, ho.out, ⟨fun h => absurd h hne.out, fun h => by cases h⟩, hb.out⟩
set_option maxRecDepth 100000 in
set_option maxHeartbeats 1000000 in
theorem sl_cloneV (A : Option Addr) (n c : Nat) (xs : List Int) (w : World) (hr : Rd w w.heap.size A n (xs.map (.int .i32))) (hn : n ≤ 1048576) (hA : A = none → n = 0 ∧ c = 0) :
    Calls Try.prog 24 #[.slice A n c] w (RetV 21 1 n A (xs.map (.int .i32)) w) := by
  have ez := fun (w : World) (A : Option Addr) (l c : Nat) => Lib.run_eql_slice_nil (P := Try.prog) w 30 21 A l c 0 0 Try.underlying30
  have HL : Hid ((xs.map (Value.int .i32)).length = n * 1) := by show _ = _; rw [Nat.mul_one]; exact hr.len
  have HR := Lib.hid hr.2
  have HA := Lib.hid hA
  have H1 : Hid (∀ u ∈ xs.map (Value.int .i32), u.oneCell' = true) := by
    intro u hu
    obtain ⟨l, _, rfl⟩ := List.mem_map.1 hu
    rfl
  clear hr hA
  cases A with
  | none =>
    obtain ⟨rfl, rfl⟩ := HA.out rfl
    have HE : Hid (xs.map (Value.int .i32) = []) := List.eq_nil_of_length_eq_zero HL.out
    go_enter Try.func24, Try.ntmps24
    go_wp2
    go_ret
    exact ⟨_, _, rfl, by rw [HE.out]; exact World.ownsRow_nil _ _ _ _, Iff.rfl, Below.refl _ _⟩
  | some a =>
    go_enter Try.func24, Try.ntmps24
    go_wp2_with (at_builtin; refine wpList_cloneV rfl (.tmp 5) (.tmp 6) 30 21 1 4 _ rfl Try.underlying30 info_int32 rfl (by decide) w (some a) n c (xs.map (.int .i32)) rfl rfl HL.out HR.out H1.out HA.out (by omega) (by decide) ?_; intro A' c' w1 ho hne hb; replace ho := Lib.hid ho; replace hb := Lib.hid hb; replace hne := Lib.hid hne)
    go_ret
    exact ⟨_, _, rfl, ho.out, ⟨fun h => absurd h hne.out, fun h => by cases h⟩, hb.out⟩
end Go.Proofs.Ytckclflbcgblaaa
