/- The first of some spots: rank.Least. -/
import Derived.Test.YtpcbfoddlpgdjaaRkJ
namespace Go.Proofs.Ytpcbfoddlpgdjaa
open Go.RowKit
set_option maxRecDepth 100000 in
set_option maxHeartbeats 4000000 in
theorem rank_least (A : Option Addr) (n c : Nat) (l : List Sp) (k : Int) (w : World) (hg : SpAt w w.heap.size A n l) (hA : A = none → n = 0 ∧ c = 0) (hn : n ≤ 2097152) :
    Calls Try.prog 16 #[.slice A n c, .int .i64 k] w (fun e w' => ∃ A' n' c', e = .returned (.slice A' n' c') ∧ SpAt w' w'.heap.size A' n' ((sortSp l).take (min (max k 0) (l.length : Int)).toNat) ∧ Below w.heap.size w w') := by
  have HC := Lib.hid (rank_sort A n c l w hg hA hn)
  have HL : Hid (l.length ≤ 2097152) := by show _ ≤ _; rw [hg.len]; exact hn
  clear hg hA hn
  go_enter Try.func16, Try.ntmps16
  go_upto_region 2 with (go_at_call 31; (with_reducible refine HC.out.mono ?_); rintro e w1 ⟨A', n', c', rfl, hs, h1, h2, h3, hb⟩; obtain rfl : l.length = n' := (by have := hs.len; rw [sortSp_len] at this; exact this); replace hs := Lib.hid hs; replace h1 := Lib.hid h1; replace h2 := Lib.hid h2; replace hb := Lib.hid hb; clear h3)
  clear HC
  obtain ⟨t, ht⟩ : ∃ t : Nat, min (max k 0) (l.length : Int) = (t : Int) := ⟨(min (max k 0) (l.length : Int)).toNat, by omega⟩
  have htl : t ≤ l.length := by omega
  have t1 : ((t : Nat) : Int) ≤ ((c' : Nat) : Int) := by have := h1.out; omega
  have t2 : t ≤ c' := by have := h1.out; omega
  have HTT : Hid ((min (max k 0) (l.length : Int)).toNat = t) := by show _ = _; omega
  have HTL := Lib.hid htl
  clear htl
  go_wp2_with fail
  go_ret
  refine ⟨A', t, c', rfl, ?_, hb.out⟩
  rw [HTT.out]
  obtain ⟨r1, r2, r3⟩ := hs.out
  refine ⟨by rw [List.map_take, List.length_take, r1]; have := HTL.out; omega, fun c hc => r2 c (by rw [List.map_take] at hc; exact List.mem_of_mem_take hc), fun h0 => ?_⟩
  obtain ⟨b, o, e, hbl, hc⟩ := r3 (by have := HTL.out; omega)
  refine ⟨b, o, e, hbl, fun i c hi j u hu => hc i c ?_ j u hu⟩
  rw [List.map_take, List.getElem?_take] at hi
  split at hi
  · exact hi
  · cases hi
end Go.Proofs.Ytpcbfoddlpgdjaa
