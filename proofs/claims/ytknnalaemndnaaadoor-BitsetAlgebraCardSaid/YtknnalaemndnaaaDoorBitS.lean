/- Walks of the reference of bitset: the least number; sets put together. -/
import Derived.Test.YtknnalaemndnaaaDoorBitQ
import Derived.Test.YtknnalaemndnaaaDoorBitN
namespace Go.Proofs.YtknnalaemndnaaaDoor
open Go.RowKit
theorem lst_bd {p : Nat → Bool} {m j : Nat} (hj : j < (lst p m).length) : ∃ y : Nat, ig (lst p m) j = y ∧ y < m ∧ p y = true := by
  have : ig (lst p m) j ∈ lst p m := by rw [ig, List.getD_eq_getElem?_getD, List.getElem?_eq_getElem hj]; simp
  obtain ⟨y, h1, h2, h3⟩ := mem_lst.1 this
  exact ⟨y, h1, h2, h3⟩
theorem lst_rise (p : Nat → Bool) : ∀ (m i j : Nat), i < j → j < (lst p m).length → ig (lst p m) i < ig (lst p m) j := by
  intro m
  induction m with
  | zero => intro i j _ hj; simp [lst] at hj
  | succ m ih =>
    intro i j hij hj
    rw [lst_succ] at hj ⊢
    cases h : p m with
    | false => rw [h] at hj; simp at hj; simpa using ih i j hij hj
    | true =>
      rw [h] at hj
      simp only [if_true, List.length_append, List.length_singleton] at hj ⊢
      have e1 : ∀ i, i < (lst p m).length → ig (lst p m ++ [(m : Int)]) i = ig (lst p m) i := fun i hi => by
        rw [ig, ig, List.getD_eq_getElem?_getD, List.getD_eq_getElem?_getD, List.getElem?_append_left hi]
      rcases Nat.lt_or_ge j (lst p m).length with q | q
      · rw [e1 i (by omega), e1 j q]; exact ih i j hij q
      · obtain rfl : j = (lst p m).length := by omega
        rw [e1 i hij]
        obtain ⟨y, hy, hlt, _⟩ := lst_bd hij
        rw [hy, ig, List.getD_eq_getElem?_getD, List.getElem?_append_right (Nat.le_refl _), Nat.sub_self]
        simp; omega
theorem lst_find {p : Nat → Bool} {m y : Nat} (hy : y < m) (hp : p y = true) : ∃ j, j < (lst p m).length ∧ ig (lst p m) j = y := by
  have h : (y : Int) ∈ lst p m := mem_lst.2 ⟨y, rfl, hy, hp⟩
  obtain ⟨j, hj, he⟩ := List.getElem_of_mem h
  exact ⟨j, hj, by rw [ig, List.getD_eq_getElem?_getD, List.getElem?_eq_getElem hj]; exact he⟩
def NextRetB (p : Nat → Bool) (n : Int) (w : World) (e : Ending) (w' : World) : Prop := ∃ x is, e = .returned (.tuple #[.int .i64 x, .bool is]) ∧ NextOK p n x is ∧ Below w.heap.size w w'
set_option maxRecDepth 100000 in
set_option maxHeartbeats 1000000 in
theorem ref_next (A : Option Addr) (m c : Nat) (ws : List Int) (n : Int) (w : World) (hr : Rd w w.heap.size A m (ws.map (.int .u64))) (hw : ∀ z ∈ ws, Word z) (hm : m ≤ 9223372036854775807) :
    Calls Tryd.prog 8 #[.slice A m c, .int .i64 n] w (NextRetB (hasB ws) n w) := by
  have hli := ref_list A m c ws w hr hw hm
  have HLI := Lib.hid hli
  obtain ⟨l, hl⟩ : ∃ l, listE ws = l := ⟨_, rfl⟩
  have HB : Hid (∀ j, j < l.length → ∃ y : Nat, ig l j = y ∧ y < 4096 ∧ hasB ws y = true) := fun j hj => by rw [← hl] at hj ⊢; exact lst_bd hj
  have HS : Hid (∀ i j, i < j → j < l.length → ig l i < ig l j) := fun i j h1 h2 => by rw [← hl] at h2 ⊢; exact lst_rise _ _ i j h1 h2
  have HF : Hid (∀ y : Nat, y < 4096 → hasB ws y = true → ∃ j, j < l.length ∧ ig l j = y) := fun y h1 h2 => by rw [← hl]; exact lst_find h1 h2
  have hlen : l.length ≤ 4096 := by rw [← hl]; exact lst_len _ _
  rw [hl] at HLI
  obtain ⟨M, hM⟩ : ∃ M, l.length = M := ⟨_, rfl⟩
  have HM := Lib.hid hM
  clear hli hr hl hM
  go_enter Tryd.func8, Tryd.ntmps8
  go_wp2_with fail
  refine HLI.out.mono ?_
  intro e w1 hret
  obtain ⟨⟨B, d, rfl, _, hrd⟩, hb⟩ := hret.rd
  rw [HM.out] at hrd hlen ⊢
  have HR := Lib.hid hrd
  clear hret hrd
  go_wp2_with fail
  go_loop [7, 11] (fun _ i => ∃ j : Nat, j ≤ M ∧ i = .int .i64 j ∧ Hid (∀ k, k < j → ig l k < n)) (fun _ i => M - (intOf i).toNat)
  case atStart => exact ⟨0, Nat.zero_le _, rfl, fun k hk => by omega⟩
  case round =>
    obtain ⟨j, hj, rfl, hv⟩ := hrel
    by_cases hlt : j < M
    · obtain ⟨b, o, rfl, _, hc⟩ := HR.out.atI hlt
      obtain ⟨y, hy, hy4, hyb⟩ := HB.out j (by rw [HM.out]; exact hlt)
      have HY := Lib.hid hy
      have HYB := Lib.hid hyb
      rw [hy] at hc
      clear hy hyb
      by_cases h1 : n ≤ y
      · have HN : Hid (NextOK (hasB ws) n y true) := Or.inl ⟨y, rfl, rfl, hy4, HYB.out, h1, fun z h2 h3 => by
          cases hz : hasB ws z with
          | false => rfl
          | true =>
            exfalso
            obtain ⟨k, hk, hke⟩ := HF.out z (by omega) hz
            rcases Nat.lt_trichotomy k j with g | g | g
            · have := hv.out k g; omega
            · subst g; rw [HY.out] at hke; omega
            · have := HS.out j k g hk; rw [HY.out, hke] at this; omega⟩
        go_wp2
        go_ret2
        exact ⟨_, _, rfl, HN.out, hb⟩
      · have t1 : decide (n ≤ (y : Int)) = false := by simp; omega
        have HV : Hid (∀ k, k < j + 1 → ig l k < n) := fun k hk => by
          rcases Nat.lt_or_ge k j with g | g
          · exact hv.out k g
          · obtain rfl : k = j := by omega
            rw [HY.out]; omega
        clear h1
        go_wp2
        go_round
        case rel => exact ⟨j + 1, by omega, by go_num, HV⟩
        case measure => simp [intOf]; omega
    · have HN : Hid (NextOK (hasB ws) n 0 false) := Or.inr ⟨rfl, rfl, fun z h1 h2 => by
        cases hz : hasB ws z with
        | false => rfl
        | true =>
          exfalso
          obtain ⟨k, hk, hke⟩ := HF.out z h1 hz
          have := hv.out k (by rw [HM.out] at hk; omega)
          omega⟩
      go_wp2
      go_ret2
      exact ⟨_, _, rfl, HN.out, hb⟩
end Go.Proofs.YtknnalaemndnaaaDoor
