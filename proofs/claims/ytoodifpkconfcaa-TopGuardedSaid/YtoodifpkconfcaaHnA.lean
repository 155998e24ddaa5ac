/- Two watches, apart; Clashes. -/
import Derived.Test.YtoodifpkconfcaaKnB
import Derived.Lib.OwnBridge
import Derived.Laws.AppendOwnNone
import Derived.Lib.LazyBuf
namespace Go.Proofs.Ytoodifpkconfcaa
open Go.RowKit
theorem wpList_cloneR {ops : Array Oper} {rest : List Oper} {o : Oper} {a : Act} {Q : Exit → Act → World → Prop} (hgd : o.guard = none) (s x : Operand) (T e sz bytes : Nat) (z : Value)
    (ho : o.op = .call { callee := .builtin .append, args := #[s, x], argTypes := #[T, T] })
    (hT : Try.prog.underlying T = some (.slice e)) (hinfo : (Try.prog.info? e).map (fun i => (i.zero, i.size, i.bytes)) = some (some z, sz, bytes)) (hzs : z.cells.size = sz) (hsz : 0 < sz)
    (w0 : World) (ad : Addr) (n c : Nat) (xs : List Value) (hs : a.eval s = .slice (some ⟨w0.heap.size, 0, none⟩) 0 0) (hx : a.eval x = .slice (some ad) n c) (hl : xs.length = n * sz)
    (hr : ∀ j u, xs[j]? = some u → (w0.alloc (.cells #[] e)).cell? (ad.add j) = some u) (h1 : ∀ u ∈ xs, u.oneCell' = true) (hn : n ≤ 1048576) (hby : bytes ≤ 88)
    (h : ∀ A' c' w', Below w0.heap.size w0 w' → wpList Try.prog ops Q rest (a.put o.dst (.slice A' n c')) w') :
    wpList Try.prog ops Q (o :: rest) a (w0.alloc (.cells #[] e)) := by
  obtain ⟨i, hi, hz, hz1, hz2⟩ := info_parts hinfo
  have hb0 : Below w0.heap.size w0 (w0.alloc (.cells #[] e)) := (Below.refl _ w0).alloc (Nat.le_refl _) _
  have hown : (w0.alloc (.cells #[] e)).ownsRow w0.heap.size e sz (.slice (some ⟨w0.heap.size, 0, none⟩) 0 0) 0 [] :=
    ⟨by simp, Or.inr ⟨w0.heap.size, 0, #[], rfl, Nat.le_refl _, heap_alloc_new w0 _, Nat.le_refl _, Nat.zero_le _, by simp, by simp⟩⟩
  refine wpList_append_own _ hgd s x T ho w0.heap.size e i z sz bytes hT hi hz hz1 hz2 hzs hsz _ 0 [] hs hown ad n c xs hx hl hr h1
    (by unfold maxLen; omega) (by rw [Nat.zero_add]; have := Nat.mul_le_mul hn hby; omega) hb0.size ?_
  intro v' w' ho' hg hnn
  rw [List.nil_append, Nat.zero_add] at ho'
  have hb' := hb0.grown hg hb0.size (fun k hk => by injection hk with hk; exact Nat.le_of_eq hk)
  rcases ho'.2 with ⟨rfl, e0⟩ | ⟨g, cap, cur, rfl, _⟩
  · exact absurd (hnn.1 rfl).1 (by intro q; injection q with q _ _; cases q)
  · exact h _ _ _ hb'
set_option maxRecDepth 100000 in
set_option maxHeartbeats 2000000 in
theorem rc_clashes {w : World} {F : Nat → Prop} {xb sy da : Nat} {ck : Nat → List Int} {fs : Int → Option (List Int)} {nt : Int → Option NtR} {sl : Value} {m N : Nat} (S : RcS w F xb sy da ck fs nt sl m N) (hm : m ≤ 1048576) :
    Calls Try.prog 15 #[.pointer (some ⟨xb, 0, none⟩)] w (fun e w' => (∃ A c, e = .returned (.slice A m c)) ∧ Below w.heap.size w w') := by
  have ez := fun (w : World) (A : Option Addr) (l c : Nat) => Lib.run_eql_slice_nil (P := Try.prog) w 32 69 A l c 0 0 Try.underlying32
  have hc : ∃ A c, sl = .slice A m c ∧ Calls Try.prog 30 #[.slice A m c] w (fun e w' => (∃ A' c', e = .returned (.slice A' m c')) ∧ Below w.heap.size w w') := by
    obtain ⟨xs, h, h1c⟩ := S.c
    rcases h.2 with ⟨e, h0⟩ | ⟨g, cap, cur, e, hg, hh, hnc, hcap, hsz, htk⟩
    · subst h0
      refine ⟨none, 0, e, ?_⟩
      go_enter Try.func30, Try.ntmps30
      go_wp2
      go_ret
      exact ⟨⟨_, _, rfl⟩, Below.refl _ _⟩
    · refine ⟨some ⟨g, 0, none⟩, cap, e, ?_⟩
      have HL := Lib.hid h.1
      have H1 := Lib.hid h1c
      have hglt : g < w.heap.size := (Array.getElem?_eq_some_iff.1 hh).1
      have HR : Hid (∀ j u, xs[j]? = some u → (w.alloc (.cells #[] 69)).cell? ((⟨g, 0, none⟩ : Addr).add j) = some u) := fun j u hu => by
        rw [Addr.add_lit, Nat.zero_add]
        have hj : j < m * 6 := by have := (List.getElem?_eq_some_iff.1 hu).1; rw [h.1] at this; exact this
        refine ((bel_boxC w (.cells #[] 69)).cell (p := ⟨g, j, none⟩) hglt).trans ?_
        rw [cell_of_row w g j cur _ (0, 0) hh, ← Array.getElem?_toList]
        rw [← htk, List.getElem?_take, if_pos hj] at hu
        exact hu
      have HM := Lib.hid hm
      clear h h1c hh hnc hcap hsz htk hglt S hm e
      go_enter Try.func30, Try.ntmps30
      go_wp2_with (at_builtin; refine wpList_cloneR rfl (.tmp 5) (.tmp 6) 32 69 6 48 _ rfl Try.underlying32 info_clash rfl (by decide) w ⟨g, 0, none⟩ m cap xs rfl rfl HL.out HR.out H1.out HM.out (by decide) ?_; intro A' c' w1 hb; replace hb := Lib.hid hb)
      go_ret
      exact ⟨⟨_, _, rfl⟩, hb.out⟩
  obtain ⟨A, c, e, hC⟩ := hc
  subst e
  have c0 := S.slc
  have HC := Lib.hid hC
  clear S hC ez
  go_enter Try.func15, Try.ntmps15
  go_wp2_with (go_at_call 30; (with_reducible refine HC.out.mono ?_); rintro e w1 ⟨⟨A', c', rfl⟩, hb⟩; have HB := Lib.hid hb; clear hb)
  go_ret
  exact ⟨⟨_, _, rfl⟩, HB.out⟩
end Go.Proofs.Ytoodifpkconfcaa
