/- Walks of package epoch: looks. -/
import Derived.Test.YtoodifpkconfcaaEpW
namespace Go.Proofs.Ytoodifpkconfcaa
open Go.RowKit
theorem EpAt.setAt {w : World} {base : Nat} {p : EpP} {s : EpS} (h : EpAt w base p s) (k : Nat) : EpAt (w.setCell ⟨p.g, 3, none⟩ (.int .i64 k)) base p { s with at_ := k } :=
  h.setC { s with at_ := k } 3 _ rfl rfl rfl
theorem EpAt.setEp {w : World} {base : Nat} {p : EpP} {s : EpS} (h : EpAt w base p s) (k : Nat) : EpAt (w.setCell ⟨p.g, 0, none⟩ (.int .i64 k)) base p { s with ep := k } :=
  h.setC { s with ep := k } 0 _ rfl rfl rfl
/-- Whether who is looked at next holds the epoch back. -/
def EpS.held (s : EpS) : Bool := s.rec_ s.at_ != 0 && s.rec_ s.at_ != (s.ep : Int) + 1
/-- A clock behind a look. -/
def EpS.look (s : EpS) : EpS :=
  if s.held then { s with at_ := 0 } else if s.at_ + 1 < s.n then { s with at_ := s.at_ + 1 } else { s with at_ := 0, ep := s.ep + 1 }
def EpS.looked (s : EpS) : Bool := !s.held && !decide (s.at_ + 1 < s.n)
set_option maxRecDepth 100000 in
theorem ep_look_a (p : EpP) (s : EpS) (base : Nat) (w : World) (h : EpAt w base p s) (hi : s.at_ < s.n) (b : s.ep ≤ 4611686018427387904) (hh : s.held = true) :
    Calls Try.prog 32 #[.pointer (some ⟨p.g, 0, none⟩)] w fun e w' => e = .returned (.bool false) ∧ EpAt w' base p { s with at_ := 0 } ∧ Tch p.blk w w' := by
  have hn := Lib.hid (ep_next p s base w h)
  have hw := Lib.hid (ep_who p s base s.at_ w h hi)
  have hl1 : s.at_ * 2 + 1 < s.ws.length := by unfold EpS.n at hi; omega
  have c0 := h.clk.cell 0
  have c2 := h.wrk.cell hl1
  have f1 : ∀ n, (w.drewN n).frozen? ⟨p.g, 3, none⟩ = false := fun n => (h.drewN n).clk.frozen 3
  have c3 : ∀ n, (w.drewN n).cell? ⟨p.g, 3, none⟩ = some (.int .i64 s.at_) := fun n => (h.drewN n).clk.cell 3
  have hh' := hh
  unfold EpS.held at hh'
  simp only [Bool.and_eq_true] at hh'
  obtain ⟨t1, t2⟩ := hh'
  simp only [EpS.rec_] at t1 t2
  have H1 : Hid (∀ n, EpAt ((w.drewN n).setCell ⟨p.g, 3, none⟩ (.int .i64 0)) base p { s with at_ := 0 }) := fun n => (h.drewN n).setAt 0
  have H2 : Hid (∀ n, Tch p.blk w ((w.drewN n).setCell ⟨p.g, 3, none⟩ (.int .i64 0))) := fun n => ((Tch.refl p.blk w).drewN n).setCell (Or.inl rfl) _ _
  clear h hl1 hi hh
  go_enter Try.func32, Try.ntmps32
  go_wp2_with (first | (go_at_call 41; refine hn.out.mono ?_; rintro e w' ⟨rfl, rfl⟩) | (go_at_call 40; refine hw.out.mono ?_; rintro e w' ⟨rfl, rfl⟩))
  go_quiet (fail)
  go_wp2
  go_ret
  exact ⟨rfl, H1.out _, H2.out _⟩
set_option maxRecDepth 100000 in
theorem ep_look_b (p : EpP) (s : EpS) (base : Nat) (w : World) (h : EpAt w base p s) (hi : s.at_ < s.n) (b : s.ep ≤ 4611686018427387904) (hb : s.n ≤ 64) (hh : s.held = false) (hk : s.at_ + 1 < s.n) :
    Calls Try.prog 32 #[.pointer (some ⟨p.g, 0, none⟩)] w fun e w' => e = .returned (.bool false) ∧ EpAt w' base p { s with at_ := s.at_ + 1 } ∧ Tch p.blk w w' := by
  have hn := Lib.hid (ep_next p s base w h)
  have hw := Lib.hid (ep_who p s base s.at_ w h hi)
  have hl1 : s.at_ * 2 + 1 < s.ws.length := by unfold EpS.n at hi; omega
  have c0 := h.clk.cell 0
  have c2 := h.wrk.cell hl1
  have f1 : ∀ n, (w.drewN n).frozen? ⟨p.g, 3, none⟩ = false := fun n => (h.drewN n).clk.frozen 3
  have c3 : ∀ n, (w.drewN n).cell? ⟨p.g, 3, none⟩ = some (.int .i64 s.at_) := fun n => (h.drewN n).clk.cell 3
  have G1 : ∀ n, EpAt ((w.drewN n).setCell ⟨p.g, 3, none⟩ (.int .i64 ((s.at_ : Int) + 1))) base p { s with at_ := s.at_ + 1 } := fun n => (h.drewN n).setAt (s.at_ + 1)
  have G2 : ∀ n, Tch p.blk w ((w.drewN n).setCell ⟨p.g, 3, none⟩ (.int .i64 ((s.at_ : Int) + 1))) := fun n => ((Tch.refl p.blk w).drewN n).setCell (Or.inl rfl) _ _
  have d1 : ∀ n, ((w.drewN n).setCell ⟨p.g, 3, none⟩ (.int .i64 ((s.at_ : Int) + 1))).cell? ⟨p.g, 1, none⟩ = some (.slice (some ⟨p.gw, 0, none⟩) s.n s.n) := fun n => (G1 n).clk.cell 1
  have d3 : ∀ n, ((w.drewN n).setCell ⟨p.g, 3, none⟩ (.int .i64 ((s.at_ : Int) + 1))).cell? ⟨p.g, 3, none⟩ = some (.int .i64 ((s.at_ : Int) + 1)) := fun n => (G1 n).clk.cell 3
  have t4 : decide ((s.at_ : Int) + 1 < (s.n : Int)) = true := by simp; omega
  have b2 : s.at_ ≤ 63 := by omega
  unfold EpS.held at hh
  simp only [EpS.rec_] at hh
  have H1 : Hid (∀ n m, EpAt (((w.drewN n).setCell ⟨p.g, 3, none⟩ (.int .i64 ((s.at_ : Int) + 1))).drewN m) base p { s with at_ := s.at_ + 1 }) := fun n m => (G1 n).drewN m
  have H2 : Hid (∀ n m, Tch p.blk w (((w.drewN n).setCell ⟨p.g, 3, none⟩ (.int .i64 ((s.at_ : Int) + 1))).drewN m)) := fun n m => (G2 n).drewN m
  by_cases t1 : ig s.ws (s.at_ * 2 + 1) = 0
  · rw [t1] at c2
    clear h hl1 hi hh hk G1 G2
    go_enter Try.func32, Try.ntmps32
    go_wp2_with (first | (go_at_call 41; refine hn.out.mono ?_; rintro e w' ⟨rfl, rfl⟩) | (go_at_call 40; refine hw.out.mono ?_; rintro e w' ⟨rfl, rfl⟩))
    go_quiet (fail)
    go_wp2
    go_quiet (fail)
    go_wp2
    go_ret
    exact ⟨rfl, H1.out _ _, H2.out _ _⟩
  · have t2 : (ig s.ws (s.at_ * 2 + 1) != 0) = true := by rw [bne, beq_false_of_ne t1]; rfl
    rw [t2, Bool.true_and] at hh
    clear h hl1 hi hk t1 G1 G2
    go_enter Try.func32, Try.ntmps32
    go_wp2_with (first | (go_at_call 41; refine hn.out.mono ?_; rintro e w' ⟨rfl, rfl⟩) | (go_at_call 40; refine hw.out.mono ?_; rintro e w' ⟨rfl, rfl⟩))
    go_quiet (fail)
    go_wp2
    go_quiet (fail)
    go_wp2
    go_ret
    exact ⟨rfl, H1.out _ _, H2.out _ _⟩
set_option maxRecDepth 100000 in
theorem ep_look_c (p : EpP) (s : EpS) (base : Nat) (w : World) (h : EpAt w base p s) (hi : s.at_ < s.n) (b : s.ep ≤ 4611686018427387904) (hb : s.n ≤ 64) (hh : s.held = false) (hk : ¬ s.at_ + 1 < s.n) :
    Calls Try.prog 32 #[.pointer (some ⟨p.g, 0, none⟩)] w fun e w' => e = .returned (.bool true) ∧ EpAt w' base p { s with at_ := 0, ep := s.ep + 1 } ∧ Tch p.blk w w' := by
  have hn := Lib.hid (ep_next p s base w h)
  have hw := Lib.hid (ep_who p s base s.at_ w h hi)
  have hl1 : s.at_ * 2 + 1 < s.ws.length := by unfold EpS.n at hi; omega
  have c0 := h.clk.cell 0
  have c2 := h.wrk.cell hl1
  have f1 : ∀ n, (w.drewN n).frozen? ⟨p.g, 3, none⟩ = false := fun n => (h.drewN n).clk.frozen 3
  have c3 : ∀ n, (w.drewN n).cell? ⟨p.g, 3, none⟩ = some (.int .i64 s.at_) := fun n => (h.drewN n).clk.cell 3
  have G1 : ∀ n, EpAt ((w.drewN n).setCell ⟨p.g, 3, none⟩ (.int .i64 ((s.at_ : Int) + 1))) base p { s with at_ := s.at_ + 1 } := fun n => (h.drewN n).setAt (s.at_ + 1)
  have G2 : ∀ n, Tch p.blk w ((w.drewN n).setCell ⟨p.g, 3, none⟩ (.int .i64 ((s.at_ : Int) + 1))) := fun n => ((Tch.refl p.blk w).drewN n).setCell (Or.inl rfl) _ _
  have d1 : ∀ n, ((w.drewN n).setCell ⟨p.g, 3, none⟩ (.int .i64 ((s.at_ : Int) + 1))).cell? ⟨p.g, 1, none⟩ = some (.slice (some ⟨p.gw, 0, none⟩) s.n s.n) := fun n => (G1 n).clk.cell 1
  have d3 : ∀ n, ((w.drewN n).setCell ⟨p.g, 3, none⟩ (.int .i64 ((s.at_ : Int) + 1))).cell? ⟨p.g, 3, none⟩ = some (.int .i64 ((s.at_ : Int) + 1)) := fun n => (G1 n).clk.cell 3
  have t4 : decide ((s.at_ : Int) + 1 < (s.n : Int)) = false := by simp; omega
  have e3 : ∀ n m, (((w.drewN n).setCell ⟨p.g, 3, none⟩ (.int .i64 ((s.at_ : Int) + 1))).drewN m).frozen? ⟨p.g, 3, none⟩ = false := fun n m => ((G1 n).drewN m).clk.frozen 3
  have G3 : ∀ n m, EpAt ((((w.drewN n).setCell ⟨p.g, 3, none⟩ (.int .i64 ((s.at_ : Int) + 1))).drewN m).setCell ⟨p.g, 3, none⟩ (.int .i64 0)) base p { s with at_ := 0 } := fun n m => ((G1 n).drewN m).setAt 0
  have e0 : ∀ n m, ((((w.drewN n).setCell ⟨p.g, 3, none⟩ (.int .i64 ((s.at_ : Int) + 1))).drewN m).setCell ⟨p.g, 3, none⟩ (.int .i64 0)).cell? ⟨p.g, 0, none⟩ = some (.int .i64 s.ep) := fun n m => (G3 n m).clk.cell 0
  have f0 : ∀ n m, ((((w.drewN n).setCell ⟨p.g, 3, none⟩ (.int .i64 ((s.at_ : Int) + 1))).drewN m).setCell ⟨p.g, 3, none⟩ (.int .i64 0)).frozen? ⟨p.g, 0, none⟩ = false := fun n m => (G3 n m).clk.frozen 0
  have b2 : s.at_ ≤ 63 := by omega
  unfold EpS.held at hh
  simp only [EpS.rec_] at hh
  have H1 : Hid (∀ n m, EpAt (((((w.drewN n).setCell ⟨p.g, 3, none⟩ (.int .i64 ((s.at_ : Int) + 1))).drewN m).setCell ⟨p.g, 3, none⟩ (.int .i64 0)).setCell ⟨p.g, 0, none⟩ (.int .i64 ((s.ep : Int) + 1))) base p { s with at_ := 0, ep := s.ep + 1 }) := fun n m => (G3 n m).setEp (s.ep + 1)
  have H2 : Hid (∀ n m, Tch p.blk w (((((w.drewN n).setCell ⟨p.g, 3, none⟩ (.int .i64 ((s.at_ : Int) + 1))).drewN m).setCell ⟨p.g, 3, none⟩ (.int .i64 0)).setCell ⟨p.g, 0, none⟩ (.int .i64 ((s.ep : Int) + 1)))) := fun n m => (((G2 n).drewN m).setCell (Or.inl rfl) _ _).setCell (Or.inl rfl) _ _
  by_cases t1 : ig s.ws (s.at_ * 2 + 1) = 0
  · rw [t1] at c2
    clear h hl1 hi hh hk G1 G2 G3
    go_enter Try.func32, Try.ntmps32
    go_wp2_with (first | (go_at_call 41; refine hn.out.mono ?_; rintro e w' ⟨rfl, rfl⟩) | (go_at_call 40; refine hw.out.mono ?_; rintro e w' ⟨rfl, rfl⟩))
    go_quiet (fail)
    go_wp2
    go_quiet (fail)
    go_wp2
    go_ret
    exact ⟨rfl, H1.out _ _, H2.out _ _⟩
  · have t2 : (ig s.ws (s.at_ * 2 + 1) != 0) = true := by rw [bne, beq_false_of_ne t1]; rfl
    rw [t2, Bool.true_and] at hh
    clear h hl1 hi hk t1 G1 G2 G3
    go_enter Try.func32, Try.ntmps32
    go_wp2_with (first | (go_at_call 41; refine hn.out.mono ?_; rintro e w' ⟨rfl, rfl⟩) | (go_at_call 40; refine hw.out.mono ?_; rintro e w' ⟨rfl, rfl⟩))
    go_quiet (fail)
    go_wp2
    go_quiet (fail)
    go_wp2
    go_ret
    exact ⟨rfl, H1.out _ _, H2.out _ _⟩
theorem ep_look (p : EpP) (s : EpS) (base : Nat) (w : World) (h : EpAt w base p s) (hi : s.at_ < s.n) (b : s.ep ≤ 4611686018427387904) (hb : s.n ≤ 64) :
    Calls Try.prog 32 #[.pointer (some ⟨p.g, 0, none⟩)] w fun e w' => e = .returned (.bool s.looked) ∧ EpAt w' base p s.look ∧ Tch p.blk w w' := by
  unfold EpS.looked EpS.look
  cases hh : s.held with
  | true => exact ep_look_a p s base w h hi b hh
  | false =>
    by_cases hk : s.at_ + 1 < s.n
    · simp only [hk, if_true, decide_true, Bool.not_true, Bool.and_false, Bool.false_eq_true, if_false]
      exact ep_look_b p s base w h hi b hb hh hk
    · simp only [hk, if_false, decide_false, Bool.not_false, Bool.and_self, Bool.false_eq_true]
      exact ep_look_c p s base w h hi b hb hh hk
theorem ep_look_nil (w : World) :
    Calls Try.prog 32 #[.pointer none] w fun e w' => e = .returned (.bool false) ∧ w = w' := by
  have hn := Lib.hid (ep_next_nil w)
  have hw := Lib.hid (ep_who_nil 0 w)
  go_enter Try.func32, Try.ntmps32
  go_wp2_with (first | (go_at_call 41; refine hn.out.mono ?_; rintro e w' ⟨rfl, rfl⟩) | (go_at_call 40; refine hw.out.mono ?_; rintro e w' ⟨rfl, rfl⟩))
  go_ret
  exact ⟨rfl, rfl⟩
end Go.Proofs.Ytoodifpkconfcaa
