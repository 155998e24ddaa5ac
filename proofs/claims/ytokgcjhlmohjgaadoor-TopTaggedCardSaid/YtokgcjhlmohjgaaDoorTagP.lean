/- Names of tags: which may be. -/
import Derived.Test.YtokgcjhlmohjgaaDoorOpenS
import Derived.Laws.RangeAny
namespace Go.Proofs.YtokgcjhlmohjgaaDoor
open Go.RowKit
/-- A letter, a digit, or '-'. -/
def okC (c : Int) : Bool := (decide (97 ≤ c) && decide (c ≤ 122)) || (decide (48 ≤ c) && decide (c ≤ 57)) || c == 45
def nameB (t : List Int) : Bool := t.all okC && t != [] && decide (t.length ≤ 32)
theorem okC_cases (r : Nat) :
    (okC r = true ∧ ((decide ((r : Int) ≥ 97) = true ∧ decide ((r : Int) ≤ 122) = true) ∨ (decide ((r : Int) ≥ 97) = false ∧ decide ((r : Int) ≥ 48) = true ∧ decide ((r : Int) ≤ 57) = true) ∨ (decide ((r : Int) ≥ 97) = false ∧ decide ((r : Int) ≥ 48) = false ∧ ((r : Int) == 45) = true))) ∨
    (okC r = false ∧ ((decide ((r : Int) ≥ 97) = true ∧ decide ((r : Int) ≤ 122) = false ∧ decide ((r : Int) ≥ 48) = true ∧ decide ((r : Int) ≤ 57) = false ∧ ((r : Int) == 45) = false) ∨ (decide ((r : Int) ≥ 97) = false ∧ decide ((r : Int) ≥ 48) = true ∧ decide ((r : Int) ≤ 57) = false ∧ ((r : Int) == 45) = false) ∨
      (decide ((r : Int) ≥ 97) = false ∧ decide ((r : Int) ≥ 48) = false ∧ ((r : Int) == 45) = false))) := by
  unfold okC
  by_cases h1 : 97 ≤ r
  · by_cases h2 : r ≤ 122
    · left; refine ⟨by simp; omega, Or.inl ⟨by simp; omega, by simp; omega⟩⟩
    · right; refine ⟨by simp; omega, Or.inl ⟨by simp; omega, by simp; omega, by simp; omega, by simp; omega, by simp; omega⟩⟩
  · by_cases h3 : 48 ≤ r
    · by_cases h4 : r ≤ 57
      · left; refine ⟨by simp; omega, Or.inr (Or.inl ⟨by simp; omega, by simp; omega, by simp; omega⟩)⟩
      · right; refine ⟨by simp; omega, Or.inr (Or.inl ⟨by simp; omega, by simp; omega, by simp; omega, by simp; omega⟩)⟩
    · by_cases h5 : r = 45
      · left; refine ⟨by simp; omega, Or.inr (Or.inr ⟨by simp; omega, by simp; omega, by simp; omega⟩)⟩
      · right; refine ⟨by simp; omega, Or.inr (Or.inr ⟨by simp; omega, by simp; omega, by simp; omega⟩)⟩
theorem okC_high {r : Nat} (h : 128 ≤ r) : decide ((r : Int) ≥ 97) = true ∧ decide ((r : Int) ≤ 122) = false ∧ decide ((r : Int) ≥ 48) = true ∧ decide ((r : Int) ≤ 57) = false ∧ ((r : Int) == 45) = false ∧ okC r = false :=
  ⟨by simp; omega, by simp; omega, by simp; omega, by simp; omega, by simp; omega, by unfold okC; simp; omega⟩
theorem all_step {t : List Int} {k : Nat} (h : ∀ j, j < k → okC (ig t j) = true) (hk : okC (ig t k) = true) : ∀ j, j < k + 1 → okC (ig t j) = true := fun j hj => by
  by_cases e : j = k
  · rw [e]; exact hk
  · exact h j (by omega)
theorem name_bad {t : List Int} {k : Nat} (hk : k < t.length) (h : okC (ig t k) = false) : nameB t = false := by
  have : t.all okC = false := by
    rw [Bool.eq_false_iff]
    intro e
    have := List.all_eq_true.1 e _ (ig_mem hk)
    rw [h] at this
    cases this
  unfold nameB
  rw [this]; rfl
theorem name_end {t : List Int} (h : ∀ j, j < t.length → okC (ig t j) = true) : nameB t = (t != [] && decide (t.length ≤ 32)) := by
  have : t.all okC = true := List.all_eq_true.2 fun x hx => by
    obtain ⟨j, hj, rfl⟩ := List.getElem_of_mem hx
    have := h j hj
    simpa [ig, List.getD_eq_getElem?_getD, hj] using this
  unfold nameB
  rw [this]; simp
theorem str_ne (t : List Int) (ht : Bytes t) : ((strOfNums t).toList == ([] : List UInt8)) = (t == []) := by
  have := str_toList t [] ht Bytes.nil
  have e : (strOfNums []).toList = [] := by rw [ByteArray.toList_eq]; rfl
  rw [e] at this
  rw [this]
  by_cases h : t = []
  · simp [h]
  · simp [h]
set_option maxRecDepth 100000 in
set_option maxHeartbeats 2000000 in
theorem tag_named (t : List Int) (ht : Bytes t) (hl : t.length ≤ 9223372036854775807) (w : World) :
    Calls Tryd.prog 28 #[.string (strOfNums t)] w fun e w' => e = .returned (.bool (nameB t)) ∧ Below w.heap.size w w' := by
  have hsz := strOfNums_size
  obtain ⟨s, hs⟩ : ∃ s, strOfNums t = s := ⟨_, rfl⟩
  have hss : s.size = t.length := by rw [← hs]; exact hsz t
  have hget : ∀ k (h : k < s.size), ((s[k]'h).toNat : Int) = ig t k := by
    subst hs
    exact fun k h => str_get t ht k h
  have hB : ∀ pos, Below w.heap.size w (w.iter s pos) := fun pos => (Below.refl _ w).alloc (Nat.le_refl _) _
  have HB := Lib.hid hB
  have HG := Lib.hid hget
  have HS := Lib.hid hss
  have HE := Lib.hid (str_ne t ht)
  have HST := Lib.hid hs
  rw [hs]
  clear hB hget hss hs hsz
  go_enter Tryd.func28, Tryd.ntmps28
  go_wp2_with fail
  go_loopw [] (fun wr => ∃ k : Nat, k ≤ t.length ∧ wr = w.iter s k ∧ Hid (∀ j, j < k → okC (ig t j) = true)) (fun wr => s.size - wr.iterPos w.heap.size)
  case atStart => exact ⟨0, Nat.zero_le _, rfl, (show ∀ j, j < 0 → _ from fun j hj => absurd hj (by omega))⟩
  case round =>
    obtain ⟨k, hk, rfl, hv⟩ := hrel
    by_cases hlt : k < s.size
    · by_cases ha : (s[k]'hlt).toNat < 128
      · have hnx : ∀ ty, (Instr.next (.pointer (some ⟨w.heap.size, 0, none⟩)) true ty).run Tryd.prog (w.iter s k) = _ := fun ty => run_next_ascii w s k ty hlt ha
        have hg := HG.out k hlt
        obtain ⟨r, hr⟩ : ∃ r, (s[k]'hlt).toNat = r := ⟨_, rfl⟩
        rw [hr] at hnx hg
        have HGK := Lib.hid hg
        have hkl : k < t.length := by have := HS.out; omega
        clear ha hr hg
        rcases okC_cases r with ⟨ho, c | c | c⟩ | ⟨ho, c | c | c⟩
        · have hstep := Lib.hid (all_step hv.out (by rw [← HGK.out]; exact ho))
          obtain ⟨c1, c2⟩ := c
          clear ho
          go_wp2_with fail
          go_roundw
          case rel => exact ⟨k + 1, hkl, rfl, hstep⟩
          case measure => simp; omega
        · have hstep := Lib.hid (all_step hv.out (by rw [← HGK.out]; exact ho))
          obtain ⟨c1, c2, c3⟩ := c
          clear ho
          go_wp2_with fail
          go_roundw
          case rel => exact ⟨k + 1, hkl, rfl, hstep⟩
          case measure => simp; omega
        · have hstep := Lib.hid (all_step hv.out (by rw [← HGK.out]; exact ho))
          obtain ⟨c1, c2, c3⟩ := c
          clear ho
          go_wp2_with fail
          go_roundw
          case rel => exact ⟨k + 1, hkl, rfl, hstep⟩
          case measure => simp; omega
        · have hbad := Lib.hid (name_bad hkl (by rw [← HGK.out]; exact ho))
          obtain ⟨c1, c2, c3, c4, c5⟩ := c
          clear ho
          go_wp2_with fail
          go_ret
          exact ⟨ret_bool hbad.out.symm, HB.out _⟩
        · have hbad := Lib.hid (name_bad hkl (by rw [← HGK.out]; exact ho))
          obtain ⟨c1, c2, c3, c4⟩ := c
          clear ho
          go_wp2_with fail
          go_ret
          exact ⟨ret_bool hbad.out.symm, HB.out _⟩
        · have hbad := Lib.hid (name_bad hkl (by rw [← HGK.out]; exact ho))
          obtain ⟨c1, c2, c3⟩ := c
          clear ho
          go_wp2_with fail
          go_ret
          exact ⟨ret_bool hbad.out.symm, HB.out _⟩
      · have hnx : ∀ ty, (Instr.next (.pointer (some ⟨w.heap.size, 0, none⟩)) true ty).run Tryd.prog (w.iter s k) = _ := fun ty => run_next_any w s k ty hlt
        obtain ⟨hh, _⟩ := decode_high s k hlt (by omega)
        have hg := HG.out k hlt
        have hkl : k < t.length := by have := HS.out; omega
        have hbad : Hid (nameB t = false) := name_bad hkl (by
          have h128 : 128 ≤ (s[k]'hlt).toNat := by omega
          rw [← hg]
          exact (okC_high h128).2.2.2.2.2)
        obtain ⟨r, hr⟩ : ∃ r, (Utf8.decode s k).1 = r := ⟨_, rfl⟩
        obtain ⟨d, hd⟩ : ∃ r, (Utf8.decode s k).2 = r := ⟨_, rfl⟩
        rw [hr, hd] at hnx
        rw [hr] at hh
        obtain ⟨c1, c2, c3, c4, c5, _⟩ := okC_high hh
        clear ha hr hd hg hh
        go_wp2_with fail
        go_ret
        exact ⟨ret_bool hbad.out.symm, HB.out _⟩
    · have hnx : ∀ ty, (Instr.next (.pointer (some ⟨w.heap.size, 0, none⟩)) true ty).run Tryd.prog (w.iter s k) = _ := fun ty => run_next_end w s k ty hlt
      have hkt : k = t.length := by have := HS.out; omega
      have HN : Hid (nameB t = (t != [] && decide (t.length ≤ 32))) := name_end (by rw [← hkt]; exact hv.out)
      have hss := HS.out
      have hie : s.toList.isEmpty = (t == []) := by
        have := HE.out
        rw [HST.out] at this
        rw [← this]
        cases s.toList <;> rfl
      clear hlt hkt
      by_cases h0 : t = []
      · have he : s.toList.isEmpty = true := by rw [hie, h0]; rfl
        have HR : Hid (nameB t = false) := by show _ = _; rw [HN.out, h0]; rfl
        clear hie h0
        go_wp2_with fail
        go_ret
        exact ⟨ret_bool HR.out.symm, HB.out _⟩
      · have he : s.toList.isEmpty = false := by rw [hie]; exact beq_false_of_ne h0
        have HR : Hid (nameB t = decide ((t.length : Int) ≤ 32)) := by
          show _ = _
          rw [HN.out, show (t != []) = true from bne_iff_ne.2 h0, Bool.true_and]
          congr 1
          exact propext ⟨fun h => by omega, fun h => by omega⟩
        clear hie h0
        go_wp2_with fail
        go_ret
        exact ⟨ret_bool HR.out.symm, HB.out _⟩
end Go.Proofs.YtokgcjhlmohjgaaDoor
