/- Walks of the reference of bitset: whether a number is there; a set's numbers; the set of numbers. -/
import Derived.Test.YtknnalaemndnaaaDoorBitU
import Derived.Laws.AppendOwnNone
namespace Go.Proofs.YtknnalaemndnaaaDoor
open Go.RowKit
set_option maxRecDepth 100000 in
set_option maxHeartbeats 1000000 in
theorem ref_has (A : Option Addr) (m c : Nat) (ws : List Int) (L : Nat) (n : Int) (hn : n ≤ 9223372036854775807) (hm : m ≤ 9223372036854775807) (w : World) (hr : Rd w L A m (ws.map (.int .u64))) (hw : ∀ z ∈ ws, Word z) :
    Calls Tryd.prog 10 #[.slice A m c, .int .i64 n] w fun e w' => e = .returned (.bool (hasE ws n)) ∧ w = w' := by
  have HL : Hid (ws.length = m) := hr.lenI
  by_cases h0 : 0 ≤ n
  · obtain ⟨n, rfl⟩ := Int.eq_ofNat_of_zero_le h0
    obtain ⟨q, hq⟩ : ∃ q, n / 64 = q := ⟨_, rfl⟩
    obtain ⟨r, hr'⟩ : ∃ r, n % 64 = r := ⟨_, rfl⟩
    have hq' : (n : Int) / 64 = (q : Int) := by omega
    have hr'' : (n : Int) % 64 = (r : Int) := by omega
    have hr64 : r < 64 := by omega
    by_cases h1 : n < 4096
    · by_cases h2 : q < m
      · obtain ⟨b, o, rfl, _, hcell⟩ := hr.atI (k := q) h2
        obtain ⟨e, hlt⟩ := wg_nat hw q
        rw [e] at hcell
        have HE : Hid (hasE ws n = (wg ws q).testBit r) := by
          show _ = _; unfold hasE hasB; rw [Int.toNat_natCast, hq, hr']; simp; omega
        obtain ⟨x, hx⟩ : ∃ x, wg ws q = x := ⟨_, rfl⟩
        rw [hx] at hcell hlt HE
        have HX : Hid ((bits .and .u64 ((x : Int) / 2 ^ r) 1 == 1) = x.testBit r) := by
          show _ = _
          rw [show (x : Int) / 2 ^ r = ((x / 2 ^ r : Nat) : Int) by simp, show (1 : Int) = ((1 : Nat) : Int) by rfl, u64_and_nat _ _ (Nat.lt_of_le_of_lt (Nat.div_le_self _ _) hlt) (by decide), Nat.and_one_is_mod, Nat.testBit_eq_decide_div_mod_eq]
          rcases Nat.mod_two_eq_zero_or_one (x / 2 ^ r) with h | h <;> rw [h] <;> rfl
        clear hx e hr hq hr' hlt
        go_enter Tryd.func10, Tryd.ntmps10
        go_wp2
        go_ret
        refine ⟨ret_bool ?_, rfl⟩
        rw [HE.out, ← HX.out]
      · have HE : Hid (hasE ws n = false) := by
          show _ = _; unfold hasE; rw [Int.toNat_natCast, hasB_out (by rw [HL.out]; omega)]; simp
        have t : decide ((q : Int) < (m : Int)) = false := by simp; omega
        clear hr hq hr'
        go_enter Tryd.func10, Tryd.ntmps10
        go_wp2
        go_ret
        exact ⟨ret_bool HE.out.symm, rfl⟩
    · have HE : Hid (hasE ws n = false) := by show _ = _; unfold hasE; simp; omega
      have t : decide (n < 4096) = false := by simp; omega
      have t' : decide ((n : Int) < 4096) = false := by simp; omega
      clear hr hq hr'
      go_enter Tryd.func10, Tryd.ntmps10
      go_wp2
      go_ret
      exact ⟨ret_bool HE.out.symm, rfl⟩
  · have HE : Hid (hasE ws n = false) := by
      show _ = _; unfold hasE; simp; omega
    have t : decide (0 ≤ n) = false := by simp; omega
    clear hr
    go_enter Tryd.func10, Tryd.ntmps10
    go_wp2
    go_ret
    exact ⟨ret_bool HE.out.symm, rfl⟩
/-- A list of integers that the call has made, and owns. -/
def RetO (t : Nat) (kd : IntKind) (zs : List Int) (w : World) (e : Ending) (w' : World) : Prop :=
  ∃ A c, e = .returned (.slice A zs.length c) ∧ (zs.length = 0 → A = none ∧ c = 0) ∧ zs.length ≤ c ∧ w'.ownsRow w.heap.size t 1 (.slice A zs.length c) zs.length (zs.map (.int kd)) ∧ Below w.heap.size w w'
theorem RetO.rd {t : Nat} {kd : IntKind} {zs : List Int} {w w' : World} {e : Ending} (h : RetO t kd zs w e w') : RetL kd zs w e w' := by
  obtain ⟨A, c, he, _, hc, hown, hb⟩ := h
  exact ⟨⟨A, c, he, hc, Rd.of_own hown⟩, hb⟩
theorem own_cap {w : World} {base t n d : Nat} {B : Option Addr} {xs : List Value} (h : w.ownsRow base t 1 (.slice B n d) n xs) : n ≤ d := by
  rcases h.2 with ⟨h1, h2⟩ | ⟨g, cap, cur, h1, _, _, h2, _⟩
  · omega
  · injection h1 with _ _ h3; omega
theorem own_len {w : World} {base t n d : Nat} {B : Option Addr} {kd : IntKind} {cs : List Int} (h : w.ownsRow base t 1 (.slice B n d) n (cs.map (.int kd))) : cs.length = n := by
  have := h.1; simpa using this
set_option maxRecDepth 100000 in
set_option maxHeartbeats 2000000 in
theorem ref_list (A : Option Addr) (m c : Nat) (ws : List Int) (w : World) (hr : Rd w w.heap.size A m (ws.map (.int .u64))) (hw : ∀ z ∈ ws, Word z) (hm : m ≤ 9223372036854775807) :
    Calls Tryd.prog 16 #[.slice A m c] w (RetO 3 .i64 (listE ws) w) := by
  have HR := Lib.hid hr
  have HL : Hid (ws.length = m) := hr.lenI
  clear hr
  go_enter Tryd.func16, Tryd.ntmps16
  go_wp2
  go_loopw [3, 4] (fun v i wr => ∃ (j n : Nat) (B : Option Addr) (d : Nat) (cs : List Int), j ≤ 4096 ∧ n ≤ j ∧ i = .int .i64 j ∧ v = .slice B n d ∧ Hid (n = 0 → B = none ∧ d = 0) ∧ Hid (cs = lst (hasB ws) j) ∧ Hid (wr.ownsRow w.heap.size 3 1 (.slice B n d) n (cs.map (.int .i64))) ∧ Hid (Below w.heap.size w wr)) (fun _ i _ => 4096 - (intOf i).toNat)
  case atStart => exact ⟨0, 0, none, 0, [], Nat.zero_le _, Nat.le_refl _, rfl, rfl, fun _ => ⟨rfl, rfl⟩, rfl, World.ownsRow_nil _ _ _ _, Below.refl _ _⟩
  case round =>
    obtain ⟨j, n, B, d, cs, hj, hn, rfl, rfl, hnil, hcs, hown, hb⟩ := hrel
    obtain ⟨q, hq⟩ : ∃ q, j / 64 = q := ⟨_, rfl⟩
    have hq' : (j : Int) / 64 = (q : Int) := by omega
    have hown' := hown.out
    have hsz := hb.out.size
    have fin : (m ≤ q ∨ j = 4096) → cs = listE ws := fun h => by
      rw [hcs.out]
      unfold listE
      refine (lst_stop hj fun z h1 h2 => ?_).symm
      rcases h with h | h
      · exact hasB_out (by rw [HL.out]; omega)
      · omega
    have HF := Lib.hid fin
    clear fin
    by_cases h1 : j < 4096
    · have t1 : decide (j < 4096) = true := by simp; omega
      have t1' : decide ((j : Int) < 4096) = true := by simp; omega
      by_cases h2 : q < m
      · have hhas := ref_has A m c ws _ j (by omega) hm wr (HR.out.below hb.out) hw
        have he : hasE ws j = hasB ws j := by unfold hasE; rw [Int.toNat_natCast]; simp; omega
        have hsucc := lst_succ (hasB ws) j
        rw [he] at hhas
        cases hh : hasB ws j with
        | false =>
          rw [hh] at hhas hsucc
          have HH := Lib.hid hhas
          have HS : Hid (cs = lst (hasB ws) (j + 1)) := by show _ = _; rw [hsucc, hcs.out]; simp
          clear hh he hhas hsucc hq
          go_wp2_with (go_at_call 10; refine HH.out.mono ?_; rintro e w' ⟨rfl, rfl⟩)
          go_roundw
          case rel => exact ⟨j + 1, n, B, d, cs, by omega, by omega, by go_num, rfl, hnil, HS, hown, hb⟩
          case measure => simp [intOf]; omega
        | true =>
          rw [hh] at hhas hsucc
          have HH := Lib.hid hhas
          have HS : Hid (cs ++ [(j : Int)] = lst (hasB ws) (j + 1)) := by show _ = _; rw [hsucc, hcs.out]; simp
          clear hh he hhas hsucc hq
          go_wp2_with (first
            | (go_at_call 10; refine HH.out.mono ?_; rintro e w' ⟨rfl, rfl⟩)
            | (at_builtin; refine wpList_push rfl (.tmp 19) (.tmp 21) _ rfl w.heap.size 3 .i64 8 (by decide) Tryd.underlying23 info_int wr B n d cs _ rfl hown' rfl (by omega) hsz ?_; intro g' c' w' hown2 hb2))
          have HB2 := Lib.hid (hb.out.trans hb2)
          have HO2 := Lib.hid hown2
          go_roundw
          case rel => exact ⟨j + 1, n + 1, _, c', _, by omega, by omega, by go_num, rfl, fun h => by omega, HS, HO2, HB2⟩
          case measure => simp [intOf]; omega
      · have t2 : decide ((q : Int) < (m : Int)) = false := by simp; omega
        have hl := HF.out (Or.inl (by omega))
        have hn2 := own_len hown'
        have hcap := own_cap hown'
        rw [hl] at hn2 hown'
        clear hl hq
        go_wp2
        go_ret
        rw [← hn2] at hown' hcap hnil ⊢
        exact ⟨B, d, rfl, hnil.out, hcap, hown', hb.out⟩
    · have t1 : decide (j < 4096) = false := by simp; omega
      have t1' : decide ((j : Int) < 4096) = false := by simp; omega
      have hl := HF.out (Or.inr (by omega))
      have hn2 := own_len hown'
      have hcap := own_cap hown'
      rw [hl] at hn2 hown'
      clear hl hq
      go_wp2
      go_ret
      rw [← hn2] at hown' hcap hnil ⊢
      exact ⟨B, d, rfl, hnil.out, hcap, hown', hb.out⟩
end Go.Proofs.YtknnalaemndnaaaDoor
