/- Scripts: the taker of words. -/
import Derived.Test.YtillmlaoppibfaaDoorScN
import Derived.Test.YtillmlaoppibfaaDoorSub
import Derived.Test.YtillmlaoppibfaaDoorRow
import Derived.Lib.Hide
import Derived.Laws.OwnMore
import Derived.Deep.AppendLies
import Derived.Maps.AppendAt
import Derived.Maps.Range
namespace Go.Proofs.YtillmlaoppibfaaDoor
open Go.RowKit Go.Sort
theorem grownBy_transS {a b c : World} {r : Option Nat} (h : a.grownBy b none) (h' : b.grownBy c r) : a.grownBy c r :=
  ⟨h'.os.trans h.os, h'.tape.trans h.tape, h'.output.trans h.output, Nat.le_trans h.size h'.size, fun k hk hn => (h'.block k (Nat.lt_of_lt_of_le hk h.size) hn).trans (h.block k hk (by intro q; cases q))⟩
theorem wpList_pushS {ops : Array Oper} {rest : List Oper} {o : Oper} {a : Act} {Q : Exit → Act → World → Prop} (hgd : o.guard = none) (s x : Operand) (T e sz bytes : Nat) (z : Value)
    (ho : o.op = .call { callee := .builtin .append, args := #[s, x], argTypes := #[T, T] })
    (hT : Tryd.prog.underlying T = some (.slice e)) (hinfo : (Tryd.prog.info? e).map (fun i => (i.zero, i.size, i.bytes)) = some (some z, sz, bytes)) (hzs : z.cells.size = sz) (hsz : 0 < sz)
    (wr : World) (base : Nat) (v : Value) (n : Nat) (xs : List Value) (cs : Array Value) (hs : a.eval s = v) (hown : wr.ownsRow base e sz v n xs)
    (hx : a.eval x = .slice (some ⟨wr.heap.size, 0, none⟩) 1 1) (hcs : cs.size = sz) (h1 : ∀ u ∈ cs.toList, u.oneCell' = true) (hn : n ≤ 1099511627776) (hby : bytes ≤ 88) (hbase : base ≤ wr.heap.size)
    (h : ∀ g c' w', w'.ownsRow base e sz (.slice (some ⟨g, 0, none⟩) (n + 1) c') (n + 1) (xs ++ cs.toList) → wr.grownBy w' v.ownBlock → Below base wr w' → (v.ownBlock = some g ∨ wr.heap.size ≤ g) → wpList Tryd.prog ops Q rest (a.put o.dst (.slice (some ⟨g, 0, none⟩) (n + 1) c')) w') :
    wpList Tryd.prog ops Q (o :: rest) a (wr.alloc (.cells cs e)) := by
  obtain ⟨i, hi, hz, hz1, hz2⟩ := info_parts hinfo
  have hb2 : (n + 1) * bytes ≤ (n + 1) * 88 := Nat.mul_le_mul_left _ hby
  refine wpList_append_lies (wr.alloc (.cells cs e)) hgd s x T ho base e i z sz bytes hT hi hz hz1 hz2 hzs hsz v n xs hs (hown.alloc _) ⟨wr.heap.size, 0, none⟩ 1 1 cs.toList hx (by simpa using hcs)
    (World.news_of_block (cs := cs) (t := e) (fr := (0, 0)) (heap_alloc_new wr _)) h1 (by omega) (by unfold maxLen; omega) (by omega) (by simp; omega) _ rfl ?_
  intro g cap w' hown' hg hat hlt
  refine h g cap w' hown' (grownBy_transS (World.grownBy_alloc wr _ none) hg) ?_ (hat.imp_right fun q => by rw [q]; simp only [World.alloc, Array.size_push]; omega)
  exact ((Below.refl base wr).alloc hbase _).grown hg (by simp; omega) fun k hk => (hown.lt k hk).1
theorem own_farS {W W' : World} {base e : Nat} {B : Option Addr} {k d : Nat} {xs : List Value} (h : W.ownsRow base e 1 (.slice B k d) k xs) {b : Nat} (hg : W.grownBy W' (some b)) (hb : b < base) : W'.ownsRow base e 1 (.slice B k d) k xs := by
  refine h.kept hg ?_
  rcases h.2 with ⟨e', _⟩ | ⟨g, cap, cur, e', hge, _⟩
  · exact .inl (by rw [e']; rfl)
  · refine .inr fun ej => ?_
    rw [e'] at ej
    have : g = b := by simpa [Value.ownBlock] using ej
    omega
theorem own_keepS {w w' : World} {base e sz n : Nat} {v : Value} {xs : List Value} (h : w.ownsRow base e sz v n xs) (hb : Below w.heap.size w w') : w'.ownsRow base e sz v n xs :=
  h.kept (only_of_below hb none) (by cases v.ownBlock <;> simp)
theorem elemS : ∀ w, (sizeOf (Tryd.prog.elem 81)).run Tryd.prog w = .ok 1 w := fun w => by kernel_rfl
/-- A word as a value. -/
def wv (l : List UInt8) : Value := .string ⟨l.toArray⟩
/-- A taker in block b: the words ws are left. -/
def TkS (w : World) (b : Nat) (ws : List (List UInt8)) (bad : Bool) : Prop :=
  8 ≤ b ∧ ∃ A n c, Blk w b 84 #[.slice A n c, .bool bad] ∧ n ≤ c ∧ Rd w b A n (ws.map wv)
theorem Rd.drop_1 {w : World} {L m c : Nat} {A : Option Addr} {v : Value} {vs : List Value} (h : Rd w L A m (v :: vs)) (hc : m ≤ c) : Rd w L (subA A 1 c) (m - 1) vs := by
  have hl := h.len
  rw [List.length_cons] at hl
  refine ⟨by omega, fun hn => ?_⟩
  obtain ⟨b, o, e, hb, hcell⟩ := h.2 (by omega)
  refine ⟨b, o + 1, by unfold subA; rw [if_neg (by omega), e]; simp [Addr.add], hb, fun j u hu => ?_⟩
  rw [Nat.add_assoc, Nat.add_comm 1 j]
  exact hcell (j + 1) u (by rw [List.getElem?_cons_succ]; exact hu)
theorem TkS.grown {w w' : World} {b : Nat} {ws : List (List UInt8)} {bad : Bool} (h : TkS w b ws bad) (hb : Below w.heap.size w w') : TkS w' b ws bad := by
  obtain ⟨h8, A, n, c, h1, h2, h3⟩ := h
  exact ⟨h8, A, n, c, h1.below hb h1.lt, h2, h3.keep fun p hp => hb.cell (Nat.lt_trans hp h1.lt)⟩
theorem TkS.lt {w : World} {b : Nat} {ws : List (List UInt8)} {bad : Bool} (h : TkS w b ws bad) : b < w.heap.size := by
  obtain ⟨h8, A, n, c, h1, h2, h3⟩ := h
  exact h1.lt
theorem TkS.bad_ {w : World} {b : Nat} {ws : List (List UInt8)} {bad : Bool} (h : TkS w b ws bad) (v : Bool) : TkS (w.setCell ⟨b, 1, none⟩ (.bool v)) b ws v := by
  obtain ⟨h8, A, n, c, h1, h2, h3⟩ := h
  exact ⟨h8, A, n, c, h1.set_ 1 _, h2, h3.below ((Below.refl b w).setCell (p := ⟨b, 1, none⟩) (Nat.le_refl b) _)⟩
set_option maxRecDepth 100000 in
/-- The next word. -/
theorem tk_next (b : Nat) (ws : List (List UInt8)) (bad : Bool) (w : World) (h : TkS w b ws bad) :
    Calls Tryd.prog 36 #[.pointer (some ⟨b, 0, none⟩)] w fun e w' => e = .returned (wv (ws.headD [])) ∧ TkS w' b ws.tail (bad || ws.isEmpty) ∧ w.grownBy w' (some b) := by
  have HT := Lib.hid h
  obtain ⟨h8, A, n, c, h1, h2, h3⟩ := h
  have c0 : w.cell? ⟨b, 0, none⟩ = some (.slice A n c) := h1.cell 0
  have c1 : w.cell? ⟨b, 1, none⟩ = some (.bool bad) := h1.cell 1
  have f0 : w.frozen? ⟨b, 0, none⟩ = false := h1.frozen 0
  have f1 : w.frozen? ⟨b, 1, none⟩ = false := h1.frozen 1
  have hln := h3.len
  rw [List.length_map] at hln
  match ws, hln with
  | [], hln =>
    have hn : n = 0 := hln.symm
    subst hn
    have HK : Hid (TkS (w.setCell ⟨b, 1, none⟩ (.bool true)) b [] true ∧ w.grownBy (w.setCell ⟨b, 1, none⟩ (.bool true)) (some b)) :=
      ⟨HT.out.bad_ true, only_setCell (World.grownBy.refl w _) 1 _⟩
    clear h1 h2 h3
    go_enter Tryd.func36, Tryd.ntmps36
    go_wp2
    go_ret
    refine ⟨rfl, ?_, HK.out.2⟩
    rw [show (bad || ([] : List (List UInt8)).isEmpty) = true by simp]
    exact HK.out.1
  | s :: r, hln =>
    rw [List.length_cons] at hln
    rw [List.map_cons] at h3
    obtain ⟨g, o, rfl, hg, hcell⟩ := h3.2 (by omega)
    have hc0 : w.cell? ⟨g, o, none⟩ = some (wv s) := hcell 0 _ rfl
    have hne : decide ((n : Int) = 0) = false := by simp; omega
    have hn0 : ((n : Int) == 0) = false := by simp; omega
    have hlt : (0 : Int) < n := by omega
    have s1 := fun w => run_from (P := Tryd.prog) Tryd.underlying81 elemS (some ⟨g, o, none⟩) n c 1 (by omega) w
    have hd := h3.drop_1 h2
    obtain ⟨A1, hA1⟩ : ∃ A1, subA (some ⟨g, o, none⟩) 1 c = A1 := ⟨_, rfl⟩
    rw [hA1] at s1 hd
    have s1 : ∀ w, (Instr.slice 81 (.slice (some ⟨g, o, none⟩) n c) (some (.int .i64 1)) none none).run Tryd.prog w = .ok (.slice A1 (n - 1) (c - 1)) w := s1
    have HK : Hid (TkS (w.setCell ⟨b, 0, none⟩ (.slice A1 (n - 1) (c - 1))) b r bad ∧ w.grownBy (w.setCell ⟨b, 0, none⟩ (.slice A1 (n - 1) (c - 1))) (some b)) := by
      refine ⟨⟨h8, A1, n - 1, c - 1, h1.set_ 0 _, by omega, hd.below ((Below.refl b w).setCell (p := ⟨b, 0, none⟩) (Nat.le_refl b) _)⟩, only_setCell (World.grownBy.refl w _) 0 _⟩
    obtain ⟨v, hv⟩ : ∃ v, wv s = v := ⟨_, rfl⟩
    rw [hv] at hc0
    have HV := Lib.hid hv
    clear h1 h3 hcell hd hA1 hv
    go_enter Tryd.func36, Tryd.ntmps36
    go_wp2
    go_ret
    refine ⟨by rw [← HV.out]; rfl, ?_, HK.out.2⟩
    rw [show (bad || (s :: r).isEmpty) = bad by simp]
    exact HK.out.1
/-- A taker's steps leave what lies below it. -/
theorem tk_below {w w' : World} {b : Nat} {ws : List (List UInt8)} {bad : Bool} (h : TkS w b ws bad) (hg : w.grownBy w' (some b)) : Below b w w' := below_of_only hg (Nat.le_of_lt h.lt) (Nat.le_refl b)
theorem TkS.env {w w' : World} {b : Nat} {ws : List (List UInt8)} {bad : Bool} (h : TkS w b ws bad) (he : Env w) (hg : w.grownBy w' (some b)) : Env w' := he.below (tk_below h hg) h.1
theorem numO_nil (m : Nat) : numO [] m = none := by
  unfold numO
  simp [Lib.parseUintB]
set_option maxHeartbeats 2000000 in
set_option maxRecDepth 100000 in
/-- The next word's number. -/
theorem tk_num (b : Nat) (ws : List (List UInt8)) (bad : Bool) (most : Nat) (hl : (ws.headD []).length ≤ 4294967280) (w : World) (he : Env w) (h : TkS w b ws bad) :
    Calls Tryd.prog 38 #[.pointer (some ⟨b, 0, none⟩), .int .u64 most] w fun e w' => ∃ n : Nat, e = .returned (.int .u64 n) ∧ n < 18446744073709551616 ∧ (∀ u, numO (ws.headD []) most = some u → n = u) ∧ TkS w' b ws.tail (bad || (numO (ws.headD []) most).isNone) ∧ w.grownBy w' (some b) := by
  have H0 := Lib.hid h
  have HE := Lib.hid he
  have HN := Lib.hid (tk_next b ws bad w h)
  obtain ⟨s, hs⟩ : ∃ s, ws.headD [] = s := ⟨_, rfl⟩
  obtain ⟨o, ho⟩ : ∃ o, numO s most = o := ⟨_, rfl⟩
  obtain ⟨t, ht⟩ : ∃ t, ws.tail = t := ⟨_, rfl⟩
  have HBD : Hid (o.isNone = false → (bad || ws.isEmpty) = bad) := fun hq => by
    cases ws with
    | nil =>
      rw [List.headD_nil] at hs
      rw [← hs, numO_nil] at ho
      rw [← ho] at hq
      cases hq
    | cons => simp
  obtain ⟨bd, hbd⟩ : ∃ t, (bad || ws.isEmpty) = t := ⟨_, rfl⟩
  rw [hbd] at HBD
  have HM : Hid (∀ w1, Env w1 → Calls Tryd.prog 53 #[.string ⟨s.toArray⟩, .int .u64 most] w1 fun e w' => ∃ (n : Nat), e = .returned (.tuple #[.int .u64 n, .bool o.isSome]) ∧ Hid (n < 18446744073709551616) ∧ Hid (∀ u, o = some u → n = u) ∧ Below w1.heap.size w1 w') := fun w1 h1 =>
    (sc_number s most (by rw [← hs]; exact hl) w1 h1).mono (fun e w' ⟨n, q1, q2, q3, q4⟩ => ⟨n, by rw [← ho]; exact q1, q2, fun u hu => q3 u (by rw [ho]; exact hu), q4⟩)
  rw [hs, ho, ht]
  rw [hs, ht, hbd] at HN
  have HK : Hid (∀ w' (n : Nat), Hid (n < 18446744073709551616) → Hid (∀ u, o = some u → n = u) → TkS w' b t (bad || o.isNone) → w.grownBy w' (some b) → ∃ n' : Nat, Ending.returned (.int .u64 n) = .returned (.int .u64 n') ∧ n' < 18446744073709551616 ∧ (∀ u, o = some u → n' = u) ∧ TkS w' b t (bad || o.isNone) ∧ w.grownBy w' (some b)) := fun w' n h1 h2 h3 h4 => ⟨n, rfl, h1.out, h2.out, h3, h4⟩
  have HQ : ∀ Q : Ending → World → Prop, Hid (Q = fun e w' => ∃ n : Nat, e = .returned (.int .u64 n) ∧ n < 18446744073709551616 ∧ (∀ u, o = some u → n = u) ∧ TkS w' b t (bad || o.isNone) ∧ w.grownBy w' (some b)) → Calls Tryd.prog 38 #[.pointer (some ⟨b, 0, none⟩), .int .u64 most] w Q := by
    intro Q hQ
    clear h he hl hs ho ht hbd
    go_enter Tryd.func38, Tryd.ntmps38
    go_wp2_with (go_at_call 36; refine HN.out.mono ?_)
    rintro e w1 ⟨rfl, ht1, hg1⟩
    have HM1 := Lib.hid (HM.out w1 (H0.out.env HE.out hg1))
    have HT1 := Lib.hid ht1
    have HG1 := Lib.hid hg1
    clear ht1 hg1
    unfold wv
    go_wp2_with (go_at_call 53; refine HM1.out.mono ?_)
    rintro e w2 ⟨n, rfl, hn, hu, hb2⟩
    have ht2 := HT1.out.grown hb2
    have hg2 := HG1.out.trans (only_of_below hb2 (some b))
    cases o with
    | none =>
      have f1 : w2.frozen? ⟨b, 1, none⟩ = false := by obtain ⟨_, A, m, c, h1, _⟩ := ht2; exact h1.frozen 1
      have hc1 : ∃ v, w2.cell? ⟨b, 1, none⟩ = some v := by obtain ⟨_, A, m, c, h1, _⟩ := ht2; exact ⟨_, h1.cell 1⟩
      obtain ⟨v1, hc1⟩ := hc1
      have HKK : Hid (TkS (w2.setCell ⟨b, 1, none⟩ (.bool true)) b t true ∧ w.grownBy (w2.setCell ⟨b, 1, none⟩ (.bool true)) (some b)) := ⟨ht2.bad_ true, only_setCell hg2 1 _⟩
      clear hb2 ht2 hg2
      go_wp2
      rw [hQ.out]
      exact HK.out _ n hn hu (by rw [show (bad || (none : Option Nat).isNone) = true by simp]; exact HKK.out.1) HKK.out.2
    | some u =>
      rw [HBD.out rfl] at ht2
      have HKK := Lib.hid (And.intro ht2 hg2)
      clear hb2 ht2 hg2
      go_wp2
      rw [hQ.out]
      exact HK.out _ n hn hu (by rw [show (bad || (some u).isNone) = bad by simp]; exact HKK.out.1) HKK.out.2
  exact HQ _ rfl
set_option maxRecDepth 100000 in
/-- Whether all was right. -/
theorem tk_right (b : Nat) (ws : List (List UInt8)) (bad : Bool) (w : World) (h : TkS w b ws bad) :
    Calls Tryd.prog 39 #[.pointer (some ⟨b, 0, none⟩)] w fun e w' => e = .returned (.bool (!bad && ws.isEmpty)) ∧ w' = w := by
  obtain ⟨h8, A, n, c, h1, h2, h3⟩ := h
  have c0 : w.cell? ⟨b, 0, none⟩ = some (.slice A n c) := h1.cell 0
  have c1 : w.cell? ⟨b, 1, none⟩ = some (.bool bad) := h1.cell 1
  have hln := h3.len
  rw [List.length_map] at hln
  have hem : ws.isEmpty = decide (n = 0) := by rw [← hln]; cases ws <;> simp
  rw [hem]
  clear h1 h2 h3 hln hem h8
  cases bad
  · by_cases hn : n = 0
    · subst hn
      go_enter Tryd.func39, Tryd.ntmps39
      go_wp2
      go_ret
      exact ⟨rfl, rfl⟩
    · have hne : ((n : Int) == 0) = false := by simp; omega
      go_enter Tryd.func39, Tryd.ntmps39
      go_wp2
      go_ret
      exact ⟨by simp [hn], rfl⟩
  · go_enter Tryd.func39, Tryd.ntmps39
    go_wp2
    go_ret
    exact ⟨rfl, rfl⟩
end Go.Proofs.YtillmlaoppibfaaDoor
