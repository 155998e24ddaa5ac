/- Tables of tags: the document's names, places, checks; slices.Index. -/
import Derived.Test.YtokgcjhlmohjgaaDoorTagC
namespace Go.Proofs.YtokgcjhlmohjgaaDoor
open Go.RowKit
/-- The first place of a text in a table; -1: there is none. -/
def fiE (ts : List (List Int)) (t : List Int) : Int := if t ∈ ts then (ts.idxOf t : Int) else -1
theorem tg_get {ts : List (List Int)} {k : Nat} (hk : k < ts.length) : tg ts k = ts[k] := by
  simp [tg, List.getD_eq_getElem?_getD, hk]
theorem fi_hit {ts : List (List Int)} {t : List Int} {k : Nat} (hk : k < ts.length) (h : ∀ q, q < k → tg ts q ≠ t) (he : tg ts k = t) : fiE ts t = k := by
  have hm : t ∈ ts := he ▸ tg_mem hk
  unfold fiE
  rw [if_pos hm]
  have hl := List.idxOf_lt_length_iff.2 hm
  have hg := List.getElem_idxOf hl
  congr 1
  rcases Nat.lt_trichotomy (ts.idxOf t) k with q | q | q
  · exact absurd (by rw [tg_get hl]; exact hg) (h _ q)
  · exact q
  · have := List.not_of_lt_findIdx (p := (· == t)) (xs := ts) (i := k) q
    rw [tg_get hk] at he
    simp [he] at this
theorem fi_miss {ts : List (List Int)} {t : List Int} (h : ∀ q, q < ts.length → tg ts q ≠ t) : fiE ts t = -1 := by
  unfold fiE
  rw [if_neg]
  intro hm
  obtain ⟨q, hq, e⟩ := List.getElem_of_mem hm
  exact h q hq (by rw [tg_get hq]; exact e)
theorem lt_step {ts : List (List Int)} {t : List Int} {k : Nat} (h : ∀ q, q < k → tg ts q ≠ t) (hk : tg ts k ≠ t) : ∀ q, q < k + 1 → tg ts q ≠ t := fun q hq => by
  by_cases e : q = k
  · rw [e]; exact hk
  · exact h q (by omega)
set_option maxRecDepth 100000 in
set_option maxHeartbeats 1000000 in
theorem ref_find (A : Option Addr) (m c : Nat) (ts : List (List Int)) (hall : ∀ t ∈ ts, Bytes t) (t : List Int) (ht : Bytes t) (w : World) (hr : Rd w w.heap.size A m (ts.map fun t => .string (strOfNums t))) (hm : m ≤ 4611686018427387904) :
    Calls Tryd.prog 27 #[.slice A m c, .string (strOfNums t)] w fun e w' => e = .returned (.int .i64 (fiE ts t)) ∧ w = w' := by
  have hml : ts.length = m := by simpa using hr.1
  have HR := Lib.hid hr
  have HA := Lib.hid hall
  have HT := Lib.hid ht
  have HL := Lib.hid hml
  clear hr hall hml ht
  go_enter Tryd.func27, Tryd.ntmps27
  go_wp2_with fail
  go_loopw [9] (fun v wr => ∃ j : Nat, j ≤ m ∧ v = .int .i64 j ∧ wr = w ∧ Hid (∀ q, q < j → tg ts q ≠ t)) (fun v _ => m - (intOf v).toNat)
  case atStart => exact ⟨0, Nat.zero_le _, rfl, rfl, (show ∀ q, q < 0 → _ from fun q hq => absurd hq (by omega))⟩
  case round =>
    obtain ⟨j, hj, rfl, rfl, hv⟩ := hrel
    by_cases hlt : j < m
    · have hjl : j < ts.length := by have := HL.out; omega
      obtain ⟨b, o, rfl, hbl, hc1⟩ := HR.out.atS hlt
      have heq := str_toList (tg ts j) t (HA.out _ (tg_mem hjl)) HT.out
      by_cases he : tg ts j = t
      · rw [decide_eq_true he] at heq
        have HE := Lib.hid (fi_hit hjl hv.out he)
        clear he
        go_wp2_with fail
        go_ret
        exact ⟨by rw [HE.out]; rfl, rfl⟩
      · rw [decide_eq_false he] at heq
        have HE := Lib.hid (lt_step hv.out he)
        clear he
        go_wp2_with fail
        go_roundw
        case rel => exact ⟨j + 1, hlt, by go_num, by trivial, HE⟩
        case measure => simp [intOf]; omega
    · obtain rfl : j = m := by omega
      have HE : Hid (fiE ts t = -1) := fi_miss (by rw [HL.out]; exact hv.out)
      go_wp2_with fail
      go_ret
      exact ⟨by rw [HE.out]; rfl, rfl⟩
end Go.Proofs.YtokgcjhlmohjgaaDoor
