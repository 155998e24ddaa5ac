/- Walks: whether two lists of integers are one. -/
import Derived.Test.YtbpcddimnbjoeaaMem
namespace Go.Proofs.Ytbpcddimnbjoeaa
open Go.RowKit
def sameB (xs ys : List Int) : Bool := decide (xs = ys)
set_option maxHeartbeats 400000 in
theorem same_ints (A B : Option Addr) (n m c d L : Nat) (xs ys : List Int) (w : World) (hx : Rd w L A n (xs.map (.int .i64))) (hy : Rd w L B m (ys.map (.int .i64))) (hn : n ≤ 4611686018427387904) (hm : m ≤ 4611686018427387904) :
    Calls Try.prog 60 #[.slice A n c, .slice B m d] w fun e w' => e = .returned (.bool (sameB xs ys)) ∧ ∃ q, w' = w.drewN q := by
  have lx := hx.lenI
  have ly := hy.lenI
  by_cases hl : n = m
  · subst hl
    have HX := Lib.hid hx
    have HY := Lib.hid hy
    have LX := Lib.hid lx
    have LY := Lib.hid ly
    clear hx hy lx ly
    go_enter Try.func60, Try.ntmps60
    go_wp2
    go_loopw [13] (fun i wr => ∃ k : Nat, k ≤ n ∧ i = .int .i64 k ∧ (∃ q, wr = w.drewN q) ∧ Hid (∀ j, j < k → ig xs j = ig ys j)) (fun i _ => n - (intOf i).toNat)
    case atStart => exact ⟨0, Nat.zero_le _, rfl, ⟨0, rfl⟩, fun j hj => by omega⟩
    case round =>
      obtain ⟨k, hk, rfl, ⟨q, rfl⟩, hv⟩ := hrel
      by_cases hlt : k < n
      · obtain ⟨b, o, rfl, hb, hc⟩ := HX.out.atI hlt
        obtain ⟨b', o', rfl, hb', hc'⟩ := HY.out.atI hlt
        by_cases he : ig xs k = ig ys k
        · have h1 : (ig xs k != ig ys k) = false := by simp [he]
          have HE := Lib.hid he
          clear he
          go_wp2
          go_quiet (fail)
          go_wp2
          go_roundw
          case rel => exact ⟨k + 1, by omega, by go_num, ⟨_, rfl⟩, fun j hj => by
            rcases Nat.lt_or_ge j k with h | h
            · exact hv.out j h
            · obtain rfl : j = k := by omega
              exact HE.out⟩
          case measure => simp [intOf]; omega
        · have h1 : (ig xs k != ig ys k) = true := by simp [he]
          have HE := Lib.hid he
          clear he
          go_wp2
          go_quiet (fail)
          go_wp2
          go_ret
          exact ⟨ret_bool (decide_eq_false fun e => HE.out (by rw [e])).symm, ⟨_, World.drewN_drewN ..⟩⟩
      · go_wp2
        go_ret
        exact ⟨ret_bool (decide_eq_true (ext_getD (LX.out.trans LY.out.symm) fun j hj => hv.out j (by have := LX.out; omega))).symm, ⟨_, rfl⟩⟩
  · have hne : ((n : Int) != m) = true := by simp; omega
    have HX := Lib.hid lx
    have HY := Lib.hid ly
    have HL := Lib.hid hl
    clear hx hy lx ly hl
    go_enter Try.func60, Try.ntmps60
    go_wp2
    go_ret
    exact ⟨ret_bool (decide_eq_false fun e => HL.out (by rw [← HX.out, ← HY.out, e])).symm, ⟨0, rfl⟩⟩
end Go.Proofs.Ytbpcddimnbjoeaa
