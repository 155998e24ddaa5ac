/- Lists of neighbours: With, Clone, Most, Right. -/
import Derived.Test.YtbpcddimnbjoeaaPlR
import Derived.Laws.AppendOwnNone
import Derived.Lib.SliceRun
import Derived.Lib.MinMax
namespace Go.Proofs.Ytbpcddimnbjoeaa
open Go.RowKit Go.Maps Go.ChangeMaps Go.MapKept
set_option maxRecDepth 100000 in
/-- 'append([]int{}, l...)'. -/
theorem wpList_cloneI {ops : Array Oper} {rest : List Oper} {o : Oper} {a : Act} {Q : Exit → Act → World → Prop} (hgd : o.guard = none) (s x : Operand)
    (ho : o.op = .call { callee := .builtin .append, args := #[s, x], argTypes := #[43, 43] })
    (w0 : World) (A : Option Addr) (n c : Nat) (xs : List Int) (hs : a.eval s = .slice (some ⟨w0.heap.size, 0, none⟩) 0 0) (hx : a.eval x = .slice A n c) (hr : Rd w0 w0.heap.size A n (xs.map (.int .i64))) (hA : A = none → n = 0 ∧ c = 0) (hn : n ≤ 2097152)
    (h : ∀ A' c' w', OwnI w' w0.heap.size A' n c' xs → Below w0.heap.size w0 w' → wpList Try.prog ops Q rest (a.put o.dst (.slice A' n c')) w') :
    wpList Try.prog ops Q (o :: rest) a (w0.alloc (.cells #[] 3)) := by
  obtain ⟨i, hi, hz, hz1, hz2⟩ := info_parts info_int
  have hb0 := bel_box w0 (.cells #[] 3)
  have hown : (w0.alloc (.cells #[] 3)).ownsRow w0.heap.size 3 1 (.slice (some ⟨w0.heap.size, 0, none⟩) 0 0) 0 [] :=
    ⟨rfl, Or.inr ⟨w0.heap.size, 0, #[], rfl, Nat.le_refl _, heap_alloc_new w0 _, Nat.le_refl _, Nat.zero_le _, rfl, rfl⟩⟩
  have hl := hr.lenI
  cases A with
  | none =>
    obtain ⟨rfl, rfl⟩ := hA rfl
    have : xs = [] := List.eq_nil_of_length_eq_zero hl
    subst this
    refine wpList_append_own_none hgd s x 43 ho w0.heap.size 3 i 1 Try.underlying43 hi _ 0 [] hs hown hx ?_
    exact h _ _ _ hown hb0
  | some ad =>
    have hc : ∀ j u, (xs.map (Value.int .i64))[j]? = some u → (w0.alloc (.cells #[] 3)).cell? (ad.add j) = some u := by
      intro j u hu
      have hj : j < n := by
        have := (List.getElem?_eq_some_iff.1 hu).1
        rw [List.length_map, hl] at this
        exact this
      obtain ⟨b, o, e, hb, hcc⟩ := hr.2 (by omega)
      injection e with e
      subst e
      rw [Addr.add_lit]
      exact (hb0.cell (p := ⟨b, o + j, none⟩) hb).trans (hcc j u hu)
    refine wpList_append_own _ hgd s x 43 ho w0.heap.size 3 i (.int .i64 0) 1 8 Try.underlying43 hi hz hz1 hz2 rfl (by decide) _ 0 [] hs hown ad n c (xs.map (.int .i64)) hx (by rw [List.length_map, hl, Nat.mul_one]) hc
      (by intro u hu; obtain ⟨z, _, rfl⟩ := List.mem_map.1 hu; rfl) (by unfold maxLen; omega) (by omega) hb0.size ?_
    intro v' w' ho' hg _
    rw [List.nil_append, Nat.zero_add] at ho'
    have hb' := hb0.grown hg hb0.size (fun k hk => by injection hk with hk; exact Nat.le_of_eq hk)
    rcases ho'.2 with ⟨rfl, e0⟩ | ⟨g, cap, cur, rfl, _⟩
    · subst e0; exact h _ _ _ ho' hb'
    · exact h _ _ _ ho' hb'
def withI (xs : List Int) (v : Int) : List Int := if hasI xs v then xs else xs ++ [v]
/-- How many there may be. -/
def mostE (links level : Int) : Int := if level = 0 then 2 * min (max links 1) 32 else min (max links 1) 32
theorem mostE_bd (links level : Int) : 1 ≤ mostE links level ∧ mostE links level ≤ 64 := by unfold mostE; split <;> omega
set_option maxRecDepth 100000 in
theorem eg_most (links level : Int) (w : World) : Calls Try.prog 71 #[.int .i64 links, .int .i64 level] w fun e w' => e = .returned (.int .i64 (mostE links level)) ∧ w = w' := by
  have h1 : (1 : Int) ≤ min (max links 1) 32 := by omega
  have h2 : min (max links 1) 32 ≤ (32 : Int) := by omega
  obtain ⟨q, hq⟩ : ∃ q, min (max links 1) 32 = q := ⟨_, rfl⟩
  have HM : Hid (mostE links level = if level = 0 then 2 * q else q) := by show _ = _; unfold mostE; rw [hq]
  rw [hq] at h1 h2
  cases h : level == 0 with
  | true =>
    have HR : Hid (mostE links level = q * 2) := by show _ = _; rw [HM.out, if_pos (by simpa using h), Int.mul_comm]
    clear HM
    go_enter Try.func71, Try.ntmps71
    go_wp2
    go_ret
    exact ⟨by rw [HR.out]; rfl, rfl⟩
  | false =>
    have HR : Hid (mostE links level = q) := by show _ = _; rw [HM.out, if_neg (by simpa using h)]
    clear HM
    go_enter Try.func71, Try.ntmps71
    go_wp2
    go_ret
    exact ⟨by rw [HR.out]; rfl, rfl⟩
set_option maxRecDepth 100000 in
theorem rf_most (links level : Int) (w : World) : Calls Try.prog 72 #[.int .i64 links, .int .i64 level] w fun e w' => e = .returned (.int .i64 (mostE links level)) ∧ w = w' := by
  have h0 : max 1 (min links 32) = min (max links 1) 32 := by omega
  have h1 : (1 : Int) ≤ max 1 (min links 32) := by omega
  have h2 : max 1 (min links 32) ≤ (32 : Int) := by omega
  obtain ⟨q, hq⟩ : ∃ q, max 1 (min links 32) = q := ⟨_, rfl⟩
  have HM : Hid (mostE links level = if level = 0 then 2 * q else q) := by show _ = _; unfold mostE; rw [← h0, hq]
  rw [hq] at h1 h2
  clear h0
  cases h : level == 0 with
  | true =>
    have HR : Hid (mostE links level = 2 * q) := by show _ = _; rw [HM.out, if_pos (by simpa using h)]
    clear HM
    go_enter Try.func72, Try.ntmps72
    go_wp2
    go_ret
    exact ⟨by rw [HR.out]; rfl, rfl⟩
  | false =>
    have HR : Hid (mostE links level = q) := by show _ = _; rw [HM.out, if_neg (by simpa using h)]
    clear HM
    go_enter Try.func72, Try.ntmps72
    go_wp2
    go_ret
    exact ⟨by rw [HR.out]; rfl, rfl⟩
/-- Whether a list may be. -/
def okE (self slots x : Int) : Bool := !(x == self) && !decide (x < 1) && !decide (slots < x)
def rightB (xs : List Int) (self links level slots : Int) : Bool := xs.all (okE self slots) && decide xs.Nodup && decide ((xs.length : Int) ≤ mostE links level)
theorem right_bad {xs : List Int} {self links level slots : Int} {k : Nat} (hk : k < xs.length) (h : okE self slots (ig xs k) = false) : rightB xs self links level slots = false := by
  have : xs.all (okE self slots) = false := by
    cases e : xs.all (okE self slots) with
    | false => rfl
    | true =>
      rw [List.all_eq_true] at e
      have := e (ig xs k) (by simp only [ig, List.getD_eq_getElem?_getD, List.getElem?_eq_getElem hk, Option.getD_some]; exact List.getElem_mem hk)
      rw [h] at this; cases this
  unfold rightB
  rw [this]
  rfl
theorem right_twice {xs : List Int} {self links level slots : Int} {k : Nat} (hk : k < xs.length) (h : hasI (xs.take k) (ig xs k) = true) : rightB xs self links level slots = false := by
  have : ¬ xs.Nodup := by
    intro hn
    have h2 : (xs.take (k + 1)).Nodup := (List.take_sublist _ _).nodup hn
    rw [take_step hk, List.nodup_append] at h2
    exact h2.2.2 _ (hasI_iff.1 h) _ (by simp) rfl
  unfold rightB
  rw [decide_eq_false this]
  simp
theorem right_all {xs : List Int} {self links level slots : Int} (h1 : ∀ k, k < xs.length → okE self slots (ig xs k) = true) : rightB xs self links level slots = (decide xs.Nodup && decide ((xs.length : Int) ≤ mostE links level)) := by
  have : xs.all (okE self slots) = true := by
    rw [List.all_eq_true]
    intro x hx
    obtain ⟨k, hk, rfl⟩ := List.mem_iff_getElem.1 hx
    have := h1 k hk
    simpa only [ig, List.getD_eq_getElem?_getD, List.getElem?_eq_getElem hk, Option.getD_some] using this
  unfold rightB
  rw [this, Bool.true_and]
theorem nodup_step {xs : List Int} {k : Nat} (hk : k < xs.length) (hn : (xs.take k).Nodup) (h : hasI (xs.take k) (ig xs k) = false) : (xs.take (k + 1)).Nodup := by
  rw [take_step hk, List.nodup_append]
  refine ⟨hn, by simp, fun a ha b hb => ?_⟩
  simp at hb
  subst hb
  intro e
  rw [e] at ha
  rw [hasI_iff.2 ha] at h; cases h
theorem size_ints : ∀ w, (sizeOf (Try.prog.elem 43)).run Try.prog w = .ok 1 w := fun _ => by kernel_rfl
end Go.Proofs.Ytbpcddimnbjoeaa
