/- Walks of package epoch: workers, loads, pins. -/
import Derived.Test.YtoodifpkconfcaaEpM
namespace Go.Proofs.Ytoodifpkconfcaa
open Go.RowKit
set_option maxRecDepth 100000 in
theorem ep_who (p : EpP) (s : EpS) (base : Nat) (i : Nat) (w : World) (h : EpAt w base p s) (hi : i < s.n) :
    Calls Try.prog 40 #[.pointer (some ⟨p.g, 0, none⟩), .int .i64 i] w fun e w' => e = .returned (.pointer (some ⟨p.gw, i * 2, none⟩)) ∧ w = w' := by
  have c1 := h.clk.cell 1
  have t1 : decide ((i : Int) < 0) = false := by simp
  have t2 : decide (s.n ≤ i) = false := by simp; omega
  clear h
  go_enter Try.func40, Try.ntmps40
  go_wp2
  go_ret
  exact ⟨rfl, rfl⟩
set_option maxRecDepth 100000 in
theorem ep_who_out (p : EpP) (s : EpS) (base : Nat) (i : Int) (w : World) (h : EpAt w base p s) (hi : i < 0 ∨ (s.n : Int) ≤ i) :
    Calls Try.prog 40 #[.pointer (some ⟨p.g, 0, none⟩), .int .i64 i] w fun e w' => e = .returned (.pointer none) ∧ w = w' := by
  have c1 := h.clk.cell 1
  by_cases h0 : i < 0
  · have t1 : decide (i < 0) = true := by simp; omega
    clear h hi h0
    go_enter Try.func40, Try.ntmps40
    go_wp2
    go_ret
    exact ⟨rfl, rfl⟩
  · have t1 : decide (i < 0) = false := by simp; omega
    have t2 : decide ((s.n : Int) ≤ i) = true := by simp; omega
    clear h hi h0
    go_enter Try.func40, Try.ntmps40
    go_wp2
    go_ret
    exact ⟨rfl, rfl⟩
theorem ep_who_nil (i : Int) (w : World) :
    Calls Try.prog 40 #[.pointer none, .int .i64 i] w fun e w' => e = .returned (.pointer none) ∧ w = w' := by
  go_enter Try.func40, Try.ntmps40
  go_wp2
  go_ret
  exact ⟨rfl, rfl⟩
theorem EpAt.setW {w : World} {base : Nat} {p : EpP} {s : EpS} (h : EpAt w base p s) {k : Nat} (hk : k < s.ws.length) (u : Int) :
    EpAt (w.setCell ⟨p.gw, k, none⟩ (.int .i64 u)) base p { s with ws := s.ws.set k u } := by
  have hn : ({ s with ws := s.ws.set k u } : EpS).n = s.n := by unfold EpS.n; simp
  refine ⟨?_, h.wrk.set_ hk u, ?_, h.gb, h.gwb, h.ne⟩
  · rw [hn]
    exact h.clk.far (p := ⟨p.gw, k, none⟩) h.ne _
  · show World.ownsRow _ _ _ _ (.slice p.B s.k p.d) s.k _
    refine h.lim.kept (row := some p.gw) ⟨rfl, rfl, rfl, by simp [World.setCell], fun j _ hj => Below.heap_setCell w ⟨p.gw, k, none⟩ _ j (by rintro rfl; exact hj rfl)⟩ ?_
    cases hB : (Value.slice p.B s.k p.d).ownBlock with
    | none => exact Or.inl rfl
    | some b =>
      right
      intro e
      injection e with e
      subst e
      obtain ⟨rest, hw⟩ := h.wrk
      rcases h.lim.2 with ⟨h1, _⟩ | ⟨g, cap, cur, h1, _, h3, _⟩
      · rw [h1] at hB; cases hB
      · rw [h1] at hB
        injection hB with hB
        subst hB
        rw [hw] at h3
        injection h3 with h3
        injection h3 with _ h3
        exact absurd h3 (by decide)
theorem EpAt.setC {w : World} {base : Nat} {p : EpP} {s : EpS} (h : EpAt w base p s) (s' : EpS) (k : Nat) (u : Value) (hws : s'.ws = s.ws) (hfl : s'.fl = s.fl)
    (hk : (#[.int .i64 s.ep, .slice (some ⟨p.gw, 0, none⟩) s.n s.n, .slice p.B s.k p.d, .int .i64 s.at_] : Array Value).setIfInBounds k u = #[.int .i64 s'.ep, .slice (some ⟨p.gw, 0, none⟩) s'.n s'.n, .slice p.B s'.k p.d, .int .i64 s'.at_]) :
    EpAt (w.setCell ⟨p.g, k, none⟩ u) base p s' := by
  have hn : s'.n = s.n := by unfold EpS.n; rw [hws]
  have hkk : s'.k = s.k := by unfold EpS.k; rw [hfl]
  refine ⟨by rw [← hk]; exact h.clk.set_ k u, ?_, ?_, h.gb, h.gwb, h.ne⟩
  · rw [hws]
    obtain ⟨rest, hw⟩ := h.wrk
    exact ⟨rest, (Below.heap_setCell w ⟨p.g, k, none⟩ u p.gw (by show p.gw ≠ p.g; exact fun e => h.ne e.symm)).trans hw⟩
  · rw [hkk, hfl]
    refine h.lim.kept (row := some p.g) ⟨rfl, rfl, rfl, by simp [World.setCell], fun j _ hj => Below.heap_setCell w ⟨p.g, k, none⟩ _ j (by rintro rfl; exact hj rfl)⟩ ?_
    cases hB : (Value.slice p.B s.k p.d).ownBlock with
    | none => exact Or.inl rfl
    | some b =>
      right
      intro e
      injection e with e
      subst e
      rcases h.lim.2 with ⟨h1, _⟩ | ⟨g, cap, cur, h1, _, h3, _⟩
      · rw [h1] at hB; cases hB
      · rw [h1] at hB
        injection hB with hB
        subst hB
        have hc := h.clk
        unfold Blk at hc
        rw [hc] at h3
        injection h3 with h3
        injection h3 with _ h3
        exact absurd h3 (by decide)
/-- A worker's record; what it loaded. -/
def EpS.rec_ (s : EpS) (i : Nat) : Int := ig s.ws (i * 2 + 1)
def EpS.ld (s : EpS) (i : Nat) : Int := ig s.ws (i * 2)
/-- Where there is no such worker. -/
def EpOut (c : Option Addr) (w : World) (i : Int) : Prop :=
  c = none ∨ ∃ base p s, c = some ⟨p.g, 0, none⟩ ∧ EpAt w base p s ∧ (i < 0 ∨ (s.n : Int) ≤ i)
theorem EpOut.who {c : Option Addr} {w : World} {i : Int} (h : EpOut c w i) :
    Calls Try.prog 40 #[.pointer c, .int .i64 i] w fun e w' => e = .returned (.pointer none) ∧ w = w' := by
  rcases h with rfl | ⟨base, p, s, rfl, h, hi⟩
  · exact ep_who_nil i w
  · exact ep_who_out p s base i w h hi
theorem ep_next (p : EpP) (s : EpS) (base : Nat) (w : World) (h : EpAt w base p s) :
    Calls Try.prog 41 #[.pointer (some ⟨p.g, 0, none⟩)] w fun e w' => e = .returned (.int .i64 s.at_) ∧ w = w' := by
  have c0 := h.clk.cell 3
  clear h
  go_enter Try.func41, Try.ntmps41
  go_wp2
  go_ret
  exact ⟨rfl, rfl⟩
theorem ep_next_nil (w : World) :
    Calls Try.prog 41 #[.pointer none] w fun e w' => e = .returned (.int .i64 0) ∧ w = w' := by
  go_enter Try.func41, Try.ntmps41
  go_wp2
  go_ret
  exact ⟨rfl, rfl⟩
end Go.Proofs.Ytoodifpkconfcaa
