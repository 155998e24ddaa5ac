/- Getter: both Nexts are the plain law's step. -/
import Derived.Test.YtkhnnjeinpojkaaGtT
import Derived.Test.YtkhnnjeinpojkaaGtO
namespace Go.Proofs.Ytkhnnjeinpojkaa
open Go.RowKit
def isB (y : AS) : Bool := decide (y.pc ≠ 9)
theorem open_015 (k kk ef : Int) (vec : List Int) (dim : Int) (ok : Bool) : openE k kk ef vec dim ok = 0 ∨ openE k kk ef vec dim ok = 1 ∨ openE k kk ef vec dim ok = 5 := by
  unfold openE
  split
  · exact .inr (.inr rfl)
  · unfold vE
    have := vchk_01 vec dim
    repeat' split
    all_goals (first | exact .inl rfl | exact .inr (.inl rfl) | (rcases this with h | h <;> rw [h] <;> simp))
section
variable {c : Tk} {cv : List Int} {x : AS} {ok : Bool} {gn gid : Int} {gvec : List Int} {gt : Int}
theorem step_0c (h : x.pc = 0) (hk : c.k = 6) : x.step c cv ok gn gid gvec gt = x.ask 2 2 0 0 0 := by
  unfold AS.step
  rw [if_pos h]
  rw [if_pos hk]
theorem step_0o (h : x.pc = 0) (hk : ¬ c.k = 6) : x.step c cv ok gn gid gvec gt = x.ask 1 1 0 0 0 := by
  unfold AS.step
  rw [if_pos h]
  rw [if_neg hk]
theorem step_1w (h : x.pc = 1) {y : Int} (hy : openE c.k c.kk c.ef cv c.dim ok = y) (h0 : y ≠ 0) : x.step c cv ok gn gid gvec gt = ({ x with marks := x.marks + 1, err := y } : AS).ask 9 0 0 0 0 := by
  unfold AS.step
  rw [if_neg (by omega), if_pos h]
  rw [hy, if_pos h0]
theorem step_1l (h : x.pc = 1) (hy : openE c.k c.kk c.ef cv c.dim ok = 0) (hk : c.k = 5) : x.step c cv ok gn gid gvec gt = x.ask 3 18 0 0 0 := by
  unfold AS.step
  rw [if_neg (by omega), if_pos h]
  rw [if_neg (by rw [hy]; decide), if_pos hk]
theorem step_1g (h : x.pc = 1) (hy : openE c.k c.kk c.ef cv c.dim ok = 0) (hk : c.k = 3) : x.step c cv ok gn gid gvec gt = x.ask 4 3 0 0 0 := by
  unfold AS.step
  rw [if_neg (by omega), if_pos h]
  rw [if_neg (by rw [hy]; decide), if_neg (by omega), if_pos hk]
theorem step_1b (h : x.pc = 1) (hy : openE c.k c.kk c.ef cv c.dim ok = 0) (hk : ¬ c.k = 5) (hk3 : ¬ c.k = 3) : x.step c cv ok gn gid gvec gt = ({ x with marks := x.marks + 1, err := 1 } : AS).ask 9 0 0 0 0 := by
  unfold AS.step
  rw [if_neg (by omega), if_pos h]
  rw [if_neg (by rw [hy]; decide), if_neg hk, if_neg hk3]
theorem step_2 (h : x.pc = 2)  : x.step c cv ok gn gid gvec gt = ({ x with marks := x.marks + 1, err := if ok then 0 else 5 } : AS).ask 9 0 0 0 0 := by
  unfold AS.step
  rw [if_neg (by omega), if_neg (by omega), if_pos h]
theorem step_3 (h : x.pc = 3)  : x.step c cv ok gn gid gvec gt = ({ x with marks := x.marks + 1, err := 0, len := gn } : AS).ask 9 0 0 0 0 := by
  unfold AS.step
  rw [if_neg (by omega), if_neg (by omega), if_neg (by omega), if_pos h]
theorem step_4 (h : x.pc = 4)  : x.step c cv ok gn gid gvec gt = x.ask 5 6 0 (recE gn) 0 := by
  unfold AS.step
  rw [if_neg (by omega), if_neg (by omega), if_neg (by omega), if_neg (by omega), if_pos h]
theorem step_5 (h : x.pc = 5)  : x.step c cv ok gn gid gvec gt = x.ask 6 15 0 0 c.id := by
  unfold AS.step
  rw [if_neg (by omega), if_neg (by omega), if_neg (by omega), if_neg (by omega), if_neg (by omega), if_pos h]
theorem step_6t (h : x.pc = 6) (hk : ok = true) : x.step c cv ok gn gid gvec gt = ({ x with marks := x.marks + 1, err := 0 } : AS).ask 7 27 gn 0 0 := by
  unfold AS.step
  rw [if_neg (by omega), if_neg (by omega), if_neg (by omega), if_neg (by omega), if_neg (by omega), if_neg (by omega), if_pos h]
  rw [if_pos hk]
theorem step_6f (h : x.pc = 6) (hk : ok = false) : x.step c cv ok gn gid gvec gt = ({ x with marks := x.marks + 1, err := 3 } : AS).ask 8 6 0 0 0 := by
  unfold AS.step
  rw [if_neg (by omega), if_neg (by omega), if_neg (by omega), if_neg (by omega), if_neg (by omega), if_neg (by omega), if_pos h]
  rw [if_neg (by rw [hk]; decide)]
theorem step_7 (h : x.pc = 7)  : x.step c cv ok gn gid gvec gt = ({ x with tid := gid, vec := gvec, ttags := gt } : AS).ask 8 6 0 0 0 := by
  unfold AS.step
  rw [if_neg (by omega), if_neg (by omega), if_neg (by omega), if_neg (by omega), if_neg (by omega), if_neg (by omega), if_neg (by omega), if_pos h]
theorem step_8 (h : 8 ≤ x.pc)  : x.step c cv ok gn gid gvec gt = x.ask 9 0 0 0 0 := by
  unfold AS.step
  rw [if_neg (by omega), if_neg (by omega), if_neg (by omega), if_neg (by omega), if_neg (by omega), if_neg (by omega), if_neg (by omega), if_neg (by omega)]
end
def RetR (c : Tk) (y : AS) (w : World) (e : Ending) (w' : World) : Prop := ∃ TV', e = .returned (.tuple #[.agg (docA c y TV'), .agg (opX y), .bool (isB y)]) ∧ VV w' TV' y.vec ∧ Below w.heap.size w w'
theorem rf_fin {c : Tk} {y y' : AS} {TV : Value} {b : Bool} {w w' : World} {e : Ending} (h : RetD c y TV b w e w') (hs : y' = y) (hb : b = isB y) (hv : VV w TV y.vec) : RetR c y' w e w' :=
  ⟨TV, by rw [hs, ← hb]; exact h.1, by rw [hs]; exact hv.below h.2, h.2⟩
theorem k_ne {k n : Int} (h : ¬ k = n) : (k == n) = false := beq_false_of_ne h
theorem k_bne {k n : Int} (h : ¬ k = n) : (k != n) = true := by simpa using h
theorem rf_next (c : Tk) (cv : List Int) (x : AS) (TV : Value) (ok : Bool) (gn gm : Int) (gL : Value) (gid : Int) (gV : Value) (gvec : List Int) (gt : Int) (w : World) (hx : x.Ok) (hv : VV w c.V cv) (hT : VV w TV x.vec) (hg : VV w gV gvec) :
    Calls Try.prog 14 #[.agg (docA c x TV), .agg (gotL ok gn gm gL gid gV gt)] w (RetR c (x.step c cv ok gn gid gvec gt) w) := by
  have h9 := hx.pc
  have v1 := hv.oneCell
  have t1 := hT.oneCell
  have hc : x.pc = 0 ∨ x.pc = 1 ∨ x.pc = 2 ∨ x.pc = 3 ∨ x.pc = 4 ∨ x.pc = 5 ∨ x.pc = 6 ∨ x.pc = 7 ∨ x.pc = 8 ∨ x.pc = 9 := by omega
  rcases hc with q | q | q | q | q | q | q | q | q | q
  · by_cases hk : c.k = 6
    · refine (nx_0c c x TV ok gn gm gL gid gV gt w v1 t1 q hk).mono fun e w' hr => ?_
      exact rf_fin hr (step_0c q hk) rfl hT
    · refine (nx_0o c x TV ok gn gm gL gid gV gt w v1 t1 q (k_ne hk)).mono fun e w' hr => ?_
      exact rf_fin hr (step_0o q hk) rfl hT
  · rcases open_015 c.k c.kk c.ef cv c.dim ok with hy | hy | hy
    · by_cases h5 : c.k = 5
      · refine (nx_1_len c x TV ok gn gm gL gid gV gt w v1 t1 q cv hv hy h5).mono fun e w' hr => ?_
        exact rf_fin hr (step_1l q hy h5) rfl hT
      · by_cases h3 : c.k = 3
        · refine (nx_1_get c x TV ok gn gm gL gid gV gt w v1 t1 q cv hv hy h3).mono fun e w' hr => ?_
          exact rf_fin hr (step_1g q hy h3) rfl hT
        · refine (nx_1_bad c x TV ok gn gm gL gid gV gt w hx v1 t1 q cv hv hy (k_ne h5) (k_ne h3) (k_bne h5) (k_bne h3)).mono fun e w' hr => ?_
          exact rf_fin hr (step_1b q hy h5 h3) rfl hT
    · refine (nx_1_1 c x TV ok gn gm gL gid gV gt w hx v1 t1 q cv hv hy).mono fun e w' hr => ?_
      exact rf_fin hr (step_1w q hy (by decide)) rfl hT
    · refine (nx_1_5 c x TV ok gn gm gL gid gV gt w hx v1 t1 q cv hv hy).mono fun e w' hr => ?_
      exact rf_fin hr (step_1w q hy (by decide)) rfl hT
  · cases ok with
    | true =>
      refine (nx_2t c x TV true gn gm gL gid gV gt w hx v1 t1 q rfl).mono fun e w' hr => ?_
      exact rf_fin hr (step_2 q) rfl hT
    | false =>
      refine (nx_2f c x TV false gn gm gL gid gV gt w hx v1 t1 q rfl).mono fun e w' hr => ?_
      exact rf_fin hr (step_2 q) rfl hT
  · refine (nx_3 c x TV ok gn gm gL gid gV gt w hx v1 t1 q).mono fun e w' hr => ?_
    exact rf_fin hr (step_3 q) rfl hT
  · refine (nx_4 c x TV ok gn gm gL gid gV gt w v1 t1 q).mono fun e w' hr => ?_
    exact rf_fin hr (step_4 q) rfl hT
  · refine (nx_5 c x TV ok gn gm gL gid gV gt w v1 t1 q).mono fun e w' hr => ?_
    exact rf_fin hr (step_5 q) rfl hT
  · cases hok : ok with
    | true =>
      refine (nx_6t c x TV true gn gm gL gid gV gt w hx v1 t1 q rfl).mono fun e w' hr => ?_
      exact rf_fin hr (step_6t q rfl) rfl hT
    | false =>
      refine (nx_6f c x TV false gn gm gL gid gV gt w hx v1 t1 q rfl).mono fun e w' hr => ?_
      exact rf_fin hr (step_6f q rfl) rfl hT
  · refine (nx_7 c x TV ok gn gm gL gid gV gt w v1 q gvec (by obtain ⟨A, n, c, e, _⟩ := hg; exact ⟨A, n, c, e⟩)).mono fun e w' hr => ?_
    exact rf_fin hr (step_7 q) rfl hg
  · refine (nx_8 c x TV ok gn gm gL gid gV gt w v1 t1 q).mono fun e w' hr => ?_
    exact rf_fin hr (step_8 (by omega)) rfl hT
  · refine (nx_9 c x TV ok gn gm gL gid gV gt w v1 t1 q).mono fun e w' hr => ?_
    exact rf_fin hr (step_8 (by omega)) rfl hT
/-- The program's task at a place. -/
def tsOf (x : AS) (TV : Value) : Ts := ⟨x.k, x.a, x.n, x.id, decide (x.pc ≠ 0), decide (x.pc = 9), x.marks, x.err, x.tid, TV, x.ttags, x.len⟩
def At (w : World) (T : Nat) (c : Tk) (x : AS) : Prop := ∃ TV, TaskAt w T c (tsOf x TV) ∧ VV w TV x.vec ∧ NotAt T TV
def RetP (T : Nat) (c : Tk) (y : AS) (w : World) (e : Ending) (w' : World) : Prop := e = .returned (.tuple #[.agg (opX y), .bool (isB y)]) ∧ At w' T c y ∧ Tch (fun k => k = T) w w'
theorem At.lt {w : World} {T : Nat} {c : Tk} {x : AS} (h : At w T c x) : T < w.heap.size := by obtain ⟨TV, h, _⟩ := h; exact h.lt
theorem gt_fin {T : Nat} {c : Tk} {y y' : AS} {b : Bool} {w w' : World} {e : Ending} {P : World → Ts → Prop} (h : RetN T c w y.k y.a y.n y.id b P e w') (hs : y' = y) (hb : b = isB y) (hP : ∀ s, P w' s → ∃ TV, s = tsOf y TV ∧ VV w' TV y.vec ∧ NotAt T TV) : RetP T c y' w e w' := by
  obtain ⟨h1, ⟨s, h2, h3⟩, h4⟩ := h
  obtain ⟨TV, rfl, hv, hn⟩ := hP s h3
  subst hs
  exact ⟨by rw [← hb]; exact h1, ⟨TV, h2, hv, hn⟩, h4⟩
/-- Next over a follow that leaves the vector. -/
theorem gt_go {T : Nat} {c : Tk} {x : AS} {TV : Value} {ok : Bool} {gn gm : Int} {gL : Value} {gid : Int} {gV : Value} {gt : Int} {w : World} (h : TaskAt w T c (tsOf x TV)) (ht : VV w TV x.vec) (hn : NotAt T TV) (h0 : x.pc ≠ 0) (h9 : x.pc ≠ 9)
    {k a n id : Int} {s2 : Ts} {y y' : AS} (hs : y' = y) (hk : y.k = k) (ha : y.a = a) (hN : y.n = n) (hi : y.id = id) (hz : (k == 0) = !isB y) (hvec : y.vec = x.vec)
    (hts : ({ s2 with ok := k, oa := a, on := n, oid := id, begun := true, ended := !isB y } : Ts) = tsOf y TV)
    (HF : ∀ w2, TaskAt w2 T c (tsOf x TV) → Below w.heap.size w w2 → Calls Try.prog 66 #[.pointer (some ⟨T, 0, none⟩), .agg (gotL ok gn gm gL gid gV gt)] w2 (RetF T c w2 k a n id fun _ s' => s' = s2)) :
    Calls Try.prog 15 #[.pointer (some ⟨T, 0, none⟩), .agg (gotL ok gn gm gL gid gV gt)] w (RetP T c y' w) := by
  subst hk ha hN hi
  have hlt := h.lt
  refine (next_go T c (tsOf x TV) ok gn gm gL gid gV gt w h (decide_eq_true h0) (decide_eq_false h9) y.k y.a y.n y.id (!isB y) hz (fun _ _ s' => s' = s2) (fun _ s' => s' = tsOf y TV)
    (fun w2 hw2 hb _ => HF w2 hw2 hb) (fun _ _ _ s' _ hs' _ => by rw [hs']; exact hts)).mono fun e w' hr => ?_
  rw [Bool.not_not] at hr
  refine gt_fin hr hs rfl fun s hq => ⟨TV, hq, ?_, hn⟩
  rw [hvec]
  exact ht.tch hr.2.2 hn (fun _ _ q => q)
theorem gt_next (T : Nat) (c : Tk) (cv : List Int) (x : AS) (ok : Bool) (gn gm : Int) (gL : Value) (gid : Int) (gV : Value) (gvec : List Int) (gt : Int) (w : World) (hx : x.Ok) (hat : At w T c x) (hv : VV w c.V cv) (hg : VV w gV gvec) (hgn : NotAt T gV) :
    Calls Try.prog 15 #[.pointer (some ⟨T, 0, none⟩), .agg (gotL ok gn gm gL gid gV gt)] w (RetP T c (x.step c cv ok gn gid gvec gt) w) := by
  obtain ⟨TV, h, ht, hn⟩ := hat
  have h9 := hx.pc
  have hm : x.marks ≤ 1 := by rw [hx.marks]; split <;> omega
  have hm' : (tsOf x TV).marks ≤ 4611686018427387904 := by show x.marks ≤ _; omega
  have hk := hx.k
  have hc : x.pc = 0 ∨ x.pc = 1 ∨ x.pc = 2 ∨ x.pc = 3 ∨ x.pc = 4 ∨ x.pc = 5 ∨ x.pc = 6 ∨ x.pc = 7 ∨ x.pc = 8 ∨ x.pc = 9 := by omega
  rcases hc with q | q | q | q | q | q | q | q | q | q
  · have e0 : (tsOf x TV).begun = false := by show decide (x.pc ≠ 0) = false; rw [q]; rfl
    have e9 : (tsOf x TV).ended = false := by show decide (x.pc = 9) = false; rw [q]; rfl
    by_cases hk6 : c.k = 6
    · refine (next_close T c (tsOf x TV) ok gn gm gL gid gV gt w h e0 e9 hk6).mono fun e w' hr => ?_
      exact gt_fin (y := x.ask 2 2 0 0 0) hr (step_0c q hk6) rfl fun s hs => ⟨TV, hs, ht.tch hr.2.2 hn (fun _ _ q => q), hn⟩
    · refine (next_open T c (tsOf x TV) ok gn gm gL gid gV gt w h e0 e9 (k_ne hk6)).mono fun e w' hr => ?_
      exact gt_fin (y := x.ask 1 1 0 0 0) hr (step_0o q hk6) rfl fun s hs => ⟨TV, hs, ht.tch hr.2.2 hn (fun _ _ q => q), hn⟩
  · have k1 : (tsOf x TV).ok = 1 := by show x.k = 1; rw [hk, q]; rfl
    rcases open_015 c.k c.kk c.ef cv c.dim ok with hy | hy | hy
    · by_cases h5 : c.k = 5
      · exact gt_go (y := x.ask 3 18 0 0 0) h ht hn (by omega) (by omega) (step_1l q hy h5) rfl rfl rfl rfl rfl rfl rfl fun w2 h2 b2 => follow_1 T c (tsOf x TV) ok gn gm gL gid gV gt w2 h2 k1 cv 18 0 0 0 _ (fun w3 h3 v3 => opened_len T c (tsOf x TV) cv ok gn gm gL gid gV gt w3 h3 v3 hm' hy h5) (hv.below b2)
      · by_cases h3 : c.k = 3
        · exact gt_go (y := x.ask 4 3 0 0 0) h ht hn (by omega) (by omega) (step_1g q hy h3) rfl rfl rfl rfl rfl rfl rfl fun w2 h2 b2 => follow_1 T c (tsOf x TV) ok gn gm gL gid gV gt w2 h2 k1 cv 3 0 0 0 _ (fun w3 h3' v3 => opened_get T c (tsOf x TV) cv ok gn gm gL gid gV gt w3 h3' v3 hm' hy h3) (hv.below b2)
        · exact gt_go (y := ({ x with marks := x.marks + 1, err := 1 } : AS).ask 9 0 0 0 0) h ht hn (by omega) (by omega) (step_1b q hy h5 h3) rfl rfl rfl rfl rfl rfl rfl fun w2 h2 b2 => follow_1 T c (tsOf x TV) ok gn gm gL gid gV gt w2 h2 k1 cv 0 0 0 0 _ (fun w3 h3' v3 => opened_bad T c (tsOf x TV) cv ok gn gm gL gid gV gt w3 h3' v3 hm' hy (k_ne h5) (k_ne h3)) (hv.below b2)
    · exact gt_go (y := ({ x with marks := x.marks + 1, err := 1 } : AS).ask 9 0 0 0 0) h ht hn (by omega) (by omega) (step_1w q hy (by decide)) rfl rfl rfl rfl rfl rfl rfl fun w2 h2 b2 => follow_1 T c (tsOf x TV) ok gn gm gL gid gV gt w2 h2 k1 cv 0 0 0 0 _ (fun w3 h3' v3 => opened_1 T c (tsOf x TV) cv ok gn gm gL gid gV gt w3 h3' v3 hm' hy) (hv.below b2)
    · exact gt_go (y := ({ x with marks := x.marks + 1, err := 5 } : AS).ask 9 0 0 0 0) h ht hn (by omega) (by omega) (step_1w q hy (by decide)) rfl rfl rfl rfl rfl rfl rfl fun w2 h2 b2 => follow_1 T c (tsOf x TV) ok gn gm gL gid gV gt w2 h2 k1 cv 0 0 0 0 _ (fun w3 h3' v3 => opened_5 T c (tsOf x TV) cv ok gn gm gL gid gV gt w3 h3' v3 hm' hy) (hv.below b2)
  · exact gt_go (y := ({ x with marks := x.marks + 1, err := if ok then 0 else 5 } : AS).ask 9 0 0 0 0) h ht hn (by omega) (by omega) (step_2 q) rfl rfl rfl rfl rfl rfl rfl fun w2 h2 _ => follow_2 T c (tsOf x TV) ok gn gm gL gid gV gt w2 h2 (by show x.k = 2; rw [hk, q]; rfl) hm'
  · exact gt_go (y := ({ x with marks := x.marks + 1, err := 0, len := gn } : AS).ask 9 0 0 0 0) h ht hn (by omega) (by omega) (step_3 q) rfl rfl rfl rfl rfl rfl rfl fun w2 h2 _ => follow_18 T c (tsOf x TV) ok gn gm gL gid gV gt w2 h2 (by show x.k = 18; rw [hk, q]; rfl) hm'
  · exact gt_go (y := x.ask 5 6 0 (recE gn) 0) h ht hn (by omega) (by omega) (step_4 q) rfl rfl rfl rfl rfl rfl rfl fun w2 h2 _ => follow_3 T c (tsOf x TV) ok gn gm gL gid gV gt w2 h2 (by show x.k = 3; rw [hk, q]; rfl)
  · exact gt_go (y := x.ask 6 15 0 0 c.id) h ht hn (by omega) (by omega) (step_5 q) rfl rfl rfl rfl rfl rfl rfl fun w2 h2 _ => follow_6t T c (tsOf x TV) ok gn gm gL gid gV gt w2 h2 (by show x.k = 6; rw [hk, q]; rfl) (hx.pin q)
  · cases hok : ok with
    | true => exact gt_go (y := ({ x with marks := x.marks + 1, err := 0 } : AS).ask 7 27 gn 0 0) h ht hn (by omega) (by omega) (step_6t q rfl) rfl rfl rfl rfl rfl rfl rfl fun w2 h2 _ => follow_15t T c (tsOf x TV) true gn gm gL gid gV gt w2 h2 (by show x.k = 15; rw [hk, q]; rfl) hm' rfl
    | false => exact gt_go (y := ({ x with marks := x.marks + 1, err := 3 } : AS).ask 8 6 0 0 0) h ht hn (by omega) (by omega) (step_6f q rfl) rfl rfl rfl rfl rfl rfl rfl fun w2 h2 _ => follow_15f T c (tsOf x TV) false gn gm gL gid gV gt w2 h2 (by show x.k = 15; rw [hk, q]; rfl) hm' rfl
  · have hlt := h.lt
    refine (next_go T c (tsOf x TV) ok gn gm gL gid gV gt w h (decide_eq_true (by omega)) (decide_eq_false (by omega)) 6 0 0 0 false rfl
      (fun w2 w3 s' => ∃ V', s' = { tsOf x TV with tid := gid, TV := V', ttags := gt } ∧ VV w3 V' gvec ∧ Fresh w2.heap.size V')
      (fun w' s' => ∃ V', s' = tsOf (({ x with tid := gid, vec := gvec, ttags := gt } : AS).ask 8 6 0 0 0) V' ∧ VV w' V' gvec ∧ NotAt T V')
      (fun w2 h2 b2 hs2 => follow_27 T c (tsOf x TV) ok gn gm gL gid gV gt w2 h2 (by show x.k = 27; rw [hk, q]; rfl) gvec (hg.below b2) hgn)
      (fun w2 w3 w7 s' hs2 hp ht7 => by
        obtain ⟨V', rfl, hv', hf⟩ := hp
        refine ⟨V', rfl, ?_, hf.notAt (by omega)⟩
        obtain ⟨A, n, cp, rfl, q1, q2, hr⟩ := hv'
        refine ⟨A, n, cp, rfl, q1, q2, hr.1, fun h0 => ?_⟩
        obtain ⟨b, o, e, hb, hcc⟩ := hr.2 h0
        subst e
        have hfb := hf b o none n cp rfl h0
        exact ⟨b, o, rfl, Nat.lt_of_lt_of_le hb ht7.size, fun j u hu => (ht7.cell (p := ⟨b, o + j, none⟩) hb (by intro r; rcases r with r | r <;> (replace r : b = _ := r; omega))).trans (hcc j u hu)⟩)).mono fun e w' hr => ?_
    exact gt_fin (y := ({ x with tid := gid, vec := gvec, ttags := gt } : AS).ask 8 6 0 0 0) hr (step_7 q) rfl fun s hs => by
      obtain ⟨V', e, v, nn⟩ := hs
      exact ⟨V', e, v, nn⟩
  · exact gt_go (y := x.ask 9 0 0 0 0) h ht hn (by omega) (by omega) (step_8 (by omega)) rfl rfl rfl rfl rfl rfl rfl fun w2 h2 _ => follow_6f T c (tsOf x TV) ok gn gm gL gid gV gt w2 h2 (by show x.k = 6; rw [hk, q]; rfl) (by show x.n ≤ 0; rw [hx.last q]; decide)
  · obtain ⟨r1, r2, r3⟩ := hx.rest (.inr q)
    have hxe : x = x.ask 9 0 0 0 0 := by
      have k0 : x.k = 0 := by rw [hk, q]; rfl
      cases x
      simp only [AS.ask] at *
      subst q k0 r1 r2 r3
      rfl
    refine (next_end T c (tsOf x TV) ok gn gm gL gid gV gt w h (decide_eq_true q)).mono fun e w' hr => ?_
    exact gt_fin (y := x.ask 9 0 0 0 0) hr (step_8 (by omega)) rfl fun s hs => ⟨TV, by rw [hs, ← hxe], ht.tch hr.2.2 hn (fun _ _ q => q), hn⟩
end Go.Proofs.Ytkhnnjeinpojkaa
