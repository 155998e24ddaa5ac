/- Scripts: a first line's config; names of kinds; whether a config is right. -/
import Derived.Test.YtillmlaoppibfaaDoorScV
namespace Go.Proofs.YtillmlaoppibfaaDoor
open Go.RowKit Go.Sort
/-- A config. -/
structure SCfg where
  dim : Int
  cap : Int
  links : Int
  ef : Int
  wks : Int
def SCfg.v (c : SCfg) : Value := .agg #[.int .i64 c.dim, .int .i64 c.cap, .int .i64 c.links, .int .i64 c.ef, .int .i64 c.wks]
def c53 : Nat := 9007199254740992
/-- A first line's config. -/
def cfgO (ws : List (List UInt8)) : Option SCfg :=
  match numO (ws.tail.headD []) c53, numO (ws.tail.tail.headD []) c53, numO (ws.tail.tail.tail.headD []) c53, numO (ws.tail.tail.tail.tail.headD []) c53, numO (ws.tail.tail.tail.tail.tail.headD []) c53 with
  | some a, some b, some c, some d, some e => if ws.tail.tail.tail.tail.tail.tail = [] ∧ ws.headD [] = storeW then some ⟨a, b, c, d, e⟩ else none
  | _, _, _, _, _ => none
/-- Whether a config is right. -/
def chkB (c : SCfg) : Bool := decide (1 ≤ c.dim ∧ c.dim ≤ 4096) && decide (1 ≤ c.cap ∧ c.cap ≤ 4096) && decide (1 ≤ c.links ∧ c.links ≤ 32) && decide (1 ≤ c.ef ∧ c.ef ≤ 4096) && decide (1 ≤ c.wks ∧ c.wks ≤ 64)
theorem bel_boxS (w : World) (o : Obj) : Below w.heap.size w (w.alloc o) := (Below.refl _ w).alloc (Nat.le_refl _) _
theorem mc_cl (x m : Int) (w : World) :
    Calls Tryd.prog 18 #[.int .i64 x, .int .i64 m] w fun e w' => e = .returned (.bool (decide (1 ≤ x ∧ x ≤ m))) ∧ w' = w := by
  by_cases h1 : 1 ≤ x
  · by_cases h2 : x ≤ m
    · rw [decide_eq_true (show 1 ≤ x ∧ x ≤ m from ⟨h1, h2⟩)]
      go_enter Tryd.func18, Tryd.ntmps18
      go_wp2
      go_ret
      exact ⟨rfl, rfl⟩
    · rw [decide_eq_false (show ¬ (1 ≤ x ∧ x ≤ m) from fun q => h2 q.2)]
      go_enter Tryd.func18, Tryd.ntmps18
      go_wp2
      go_ret
      exact ⟨rfl, rfl⟩
  · rw [decide_eq_false (show ¬ (1 ≤ x ∧ x ≤ m) from fun q => h1 q.1)]
    go_enter Tryd.func18, Tryd.ntmps18
    go_wp2
    go_ret
    exact ⟨rfl, rfl⟩
set_option maxHeartbeats 2000000 in
set_option maxRecDepth 100000 in
theorem mem_check (c : SCfg) (w : World) :
    Calls Tryd.prog 8 #[c.v] w fun e w' => e = .returned (.int .i64 (if chkB c then 0 else 1)) ∧ Below w.heap.size w w' := by
  obtain ⟨d, p, l, f, k⟩ := c
  obtain ⟨b1, h1⟩ : ∃ b, decide (1 ≤ d ∧ d ≤ 4096) = b := ⟨_, rfl⟩
  obtain ⟨b2, h2⟩ : ∃ b, decide (1 ≤ p ∧ p ≤ 4096) = b := ⟨_, rfl⟩
  obtain ⟨b3, h3⟩ : ∃ b, decide (1 ≤ l ∧ l ≤ 32) = b := ⟨_, rfl⟩
  obtain ⟨b4, h4⟩ : ∃ b, decide (1 ≤ f ∧ f ≤ 4096) = b := ⟨_, rfl⟩
  obtain ⟨b5, h5⟩ : ∃ b, decide (1 ≤ k ∧ k ≤ 64) = b := ⟨_, rfl⟩
  have K : ∀ (x m : Int) (b : Bool), decide (1 ≤ x ∧ x ≤ m) = b → Hid (∀ w, Calls Tryd.prog 18 #[.int .i64 x, .int .i64 m] w fun e w' => e = .returned (.bool b) ∧ w' = w) := fun x m b h w => by rw [← h]; exact mc_cl x m w
  have K1 := K _ _ _ h1
  have K2 := K _ _ _ h2
  have K3 := K _ _ _ h3
  have K4 := K _ _ _ h4
  have K5 := K _ _ _ h5
  rw [show chkB ⟨d, p, l, f, k⟩ = (b1 && b2 && b3 && b4 && b5) by rw [← h1, ← h2, ← h3, ← h4, ← h5]; rfl]
  unfold SCfg.v
  simp only
  have hb : Hid (Below w.heap.size w (w.alloc (.cells #[.int .i64 d, .int .i64 p, .int .i64 l, .int .i64 f, .int .i64 k] 23))) := bel_boxS _ _
  clear h1 h2 h3 h4 h5 K
  have HQ : ∀ Q : Ending → World → Prop, Hid (Q = fun e w' => e = .returned (.int .i64 (if (b1 && b2 && b3 && b4 && b5) then 0 else 1)) ∧ Below w.heap.size w w') → Calls Tryd.prog 8 #[.agg #[.int .i64 d, .int .i64 p, .int .i64 l, .int .i64 f, .int .i64 k]] w Q := by
    intro Q hQ
    cases b1 with
    | false =>
      go_enter Tryd.func8, Tryd.ntmps8
      go_wp2_with (go_at_call 18; with_reducible (first | refine (K1.out _).mono ?_ | refine (K2.out _).mono ?_ | refine (K3.out _).mono ?_ | refine (K4.out _).mono ?_ | refine (K5.out _).mono ?_); rintro e w' ⟨rfl, rfl⟩)
      rw [hQ.out]
      exact ⟨rfl, hb.out⟩
    | true =>
      cases b2 with
      | false =>
        go_enter Tryd.func8, Tryd.ntmps8
        go_wp2_with (go_at_call 18; with_reducible (first | refine (K1.out _).mono ?_ | refine (K2.out _).mono ?_ | refine (K3.out _).mono ?_ | refine (K4.out _).mono ?_ | refine (K5.out _).mono ?_); rintro e w' ⟨rfl, rfl⟩)
        rw [hQ.out]
        exact ⟨rfl, hb.out⟩
      | true =>
        cases b3 with
        | false =>
          go_enter Tryd.func8, Tryd.ntmps8
          go_wp2_with (go_at_call 18; with_reducible (first | refine (K1.out _).mono ?_ | refine (K2.out _).mono ?_ | refine (K3.out _).mono ?_ | refine (K4.out _).mono ?_ | refine (K5.out _).mono ?_); rintro e w' ⟨rfl, rfl⟩)
          rw [hQ.out]
          exact ⟨rfl, hb.out⟩
        | true =>
          cases b4 with
          | false =>
            go_enter Tryd.func8, Tryd.ntmps8
            go_wp2_with (go_at_call 18; with_reducible (first | refine (K1.out _).mono ?_ | refine (K2.out _).mono ?_ | refine (K3.out _).mono ?_ | refine (K4.out _).mono ?_ | refine (K5.out _).mono ?_); rintro e w' ⟨rfl, rfl⟩)
            rw [hQ.out]
            exact ⟨rfl, hb.out⟩
          | true =>
            cases b5 with
            | false =>
              go_enter Tryd.func8, Tryd.ntmps8
              go_wp2_with (go_at_call 18; with_reducible (first | refine (K1.out _).mono ?_ | refine (K2.out _).mono ?_ | refine (K3.out _).mono ?_ | refine (K4.out _).mono ?_ | refine (K5.out _).mono ?_); rintro e w' ⟨rfl, rfl⟩)
              rw [hQ.out]
              exact ⟨rfl, hb.out⟩
            | true =>
              go_enter Tryd.func8, Tryd.ntmps8
              go_wp2_with (go_at_call 18; with_reducible (first | refine (K1.out _).mono ?_ | refine (K2.out _).mono ?_ | refine (K3.out _).mono ?_ | refine (K4.out _).mono ?_ | refine (K5.out _).mono ?_); rintro e w' ⟨rfl, rfl⟩)
              rw [hQ.out]
              exact ⟨rfl, hb.out⟩
  exact HQ _ rfl
set_option maxHeartbeats 2000000 in
set_option maxRecDepth 100000 in
theorem sc_name (k : Int) (w : World) :
    Calls Tryd.prog 24 #[.int .i64 k] w fun e w' => e = .returned (.string ⟨(wordN k).toArray⟩) ∧ w' = w := by
  by_cases h1 : k = 1
  · subst h1
    go_enter Tryd.func24, Tryd.ntmps24
    go_wp2
    go_ret
    exact ⟨rfl, rfl⟩
  by_cases h2 : k = 2
  · subst h2
    go_enter Tryd.func24, Tryd.ntmps24
    go_wp2
    go_ret
    exact ⟨rfl, rfl⟩
  by_cases h3 : k = 3
  · subst h3
    go_enter Tryd.func24, Tryd.ntmps24
    go_wp2
    go_ret
    exact ⟨rfl, rfl⟩
  by_cases h4 : k = 4
  · subst h4
    go_enter Tryd.func24, Tryd.ntmps24
    go_wp2
    go_ret
    exact ⟨rfl, rfl⟩
  by_cases h5 : k = 5
  · subst h5
    go_enter Tryd.func24, Tryd.ntmps24
    go_wp2
    go_ret
    exact ⟨rfl, rfl⟩
  by_cases h6 : k = 6
  · subst h6
    go_enter Tryd.func24, Tryd.ntmps24
    go_wp2
    go_ret
    exact ⟨rfl, rfl⟩
  have e : wordN k = [] := by unfold wordN; simp [h1, h2, h3, h4, h5, h6]
  rw [e]
  go_enter Tryd.func24, Tryd.ntmps24
  go_wp2
  go_ret
  exact ⟨rfl, rfl⟩
end Go.Proofs.YtillmlaoppibfaaDoor
