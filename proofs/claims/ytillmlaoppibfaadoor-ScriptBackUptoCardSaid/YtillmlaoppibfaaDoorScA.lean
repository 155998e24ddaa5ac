/- Scripts: a line's acts, by the program. (Printed by tools/genScA.py.) -/
import Derived.Test.YtillmlaoppibfaaDoorScS
import Derived.Test.YtillmlaoppibfaaDoorScC
import Derived.Test.YtillmlaoppibfaaDoorScR
import Derived.Test.YtillmlaoppibfaaDoorScZ
import Derived.Deep.Onto
namespace Go.Proofs.YtillmlaoppibfaaDoor
open Go.RowKit Go.Sort
/-- The kind of a word, as far as k. -/
def kindF (word : List UInt8) : Nat → Int
  | 0 => 0
  | k + 1 => if wordN (((k + 1 : Nat)) : Int) = word then ((k + 1 : Nat) : Int) else kindF word k
theorem kindF_six (word : List UInt8) : kindF word 6 = kindN word := rfl
/-- A row of components of the call's own. -/
def VecT (w : World) (V : Option Addr) (n c : Nat) (zs : List Int) : Prop := w.ownsRow 0 21 1 (.slice V n c) n (zs.map (.int .i32)) ∧ n ≤ c
theorem VecT.nil_ (w : World) : VecT w none 0 0 [] := ⟨World.ownsRow_nil _ _ _ _, Nat.le_refl _⟩
theorem convA {n : Nat} : ∃ z : Int, (∀ w, (convert 33 3 (.int .u64 (n : Nat))).run Tryd.prog w = .ok (.int .i64 z) w) ∧ (n ≤ 4096 → z = n) := by
  refine ⟨IntKind.i64.wrap n, fun w => ?_, fun h => by rw [IntKind.wrap_i64]; omega⟩
  have := run_convert_int (P := Tryd.prog) w 33 3 .u64 n (by kernel_rfl) (by kernel_rfl)
  rw [this, show Tryd.prog.intKind 3 = .i64 from by kernel_rfl]
/-- Between the numbers of a line. -/
structure AcS (w0 w : World) (b p : Nat) (ws : List (List UInt8)) (bad : Bool) (cs : Array Value) : Prop where
  tk : TkS w b ws bad
  bl : Blk w p 40 cs
  bp : b < p
  lo : w0.heap.size ≤ b
  be : Below w0.heap.size w0 w
theorem AcS.num {w0 w w' : World} {b p : Nat} {ws ws' : List (List UInt8)} {bad bad' : Bool} {cs : Array Value} (h : AcS w0 w b p ws bad cs) (ht : TkS w' b ws' bad') (hg : w.grownBy w' (some b)) : AcS w0 w' b p ws' bad' cs :=
  ⟨ht, h.bl.grown hg (fun e => by injection e with e; have := h.bp; omega), h.bp, h.lo, h.be.trans (below_of_only hg h.be.size h.lo)⟩
theorem AcS.set_ {w0 w w' : World} {b p : Nat} {ws : List (List UInt8)} {bad : Bool} {cs cs' : Array Value} (h : AcS w0 w b p ws bad cs) (hb : Blk w' p 40 cs') (hg : w.grownBy w' (some p)) : AcS w0 w' b p ws bad cs' :=
  ⟨h.tk.far hg h.bp, hb, h.bp, h.lo, h.be.trans (below_of_only hg h.be.size (Nat.le_trans h.lo (Nat.le_of_lt h.bp)))⟩
theorem AcS.env {w0 w : World} {b p : Nat} {ws : List (List UInt8)} {bad : Bool} {cs : Array Value} (h : AcS w0 w b p ws bad cs) (he : Env w0) : Env w := he.on h.be
theorem stA_int {w : World} {p i : Nat} {z : Int} {cs : Array Value} (h : Blk w p 40 cs) (hi : i < cs.size) : ∃ w', (Instr.storeAt 3 (.pointer (some ⟨p, i, none⟩)) (.int .i64 z)).run Tryd.prog w = .ok () w' ∧ Blk w' p 40 (cs.setIfInBounds i (.int .i64 z)) ∧ w.grownBy w' (some p) :=
  stZ h hi (fun W h1 h2 => stZ_int W h1 h2)
theorem stA_u64 {w : World} {p i : Nat} {z : Int} {cs : Array Value} (h : Blk w p 40 cs) (hi : i < cs.size) : ∃ w', (Instr.storeAt 33 (.pointer (some ⟨p, i, none⟩)) (.int .u64 z)).run Tryd.prog w = .ok () w' ∧ Blk w' p 40 (cs.setIfInBounds i (.int .u64 z)) ∧ w.grownBy w' (some p) :=
  stZ h hi (fun W h1 h2 => stZ_u64 W h1 h2)
theorem stA_vec {w : World} {p i : Nat} {A : Option Addr} {n m : Nat} {cs : Array Value} (h : Blk w p 40 cs) (hi : i < cs.size) : ∃ w', (Instr.storeAt 34 (.pointer (some ⟨p, i, none⟩)) (.slice A n m)).run Tryd.prog w = .ok () w' ∧ Blk w' p 40 (cs.setIfInBounds i (.slice A n m)) ∧ w.grownBy w' (some p) :=
  stZ h hi (fun W h1 h2 => stZ_vec W h1 h2)
theorem actA_blk {W : World} {g : Nat} {xs : Array Value} (h : Blk W g 40 xs) (hs : xs.size = 8) : (Instr.loadAt 40 (.pointer (some ⟨g, 0, none⟩))).run Tryd.prog W = .ok (.agg xs) W :=
  row_load h Tryd.underlying40 rfl (by rw [hs]; kernel_rfl)
theorem VeS.fin {w w' : World} {b : Nat} {ws : List (List UInt8)} {bad : Bool} {v : Value} (h : VeS w w' b ws bad ws.length v) : ∃ zs : List Int, w'.ownsRow w.heap.size 21 1 v ws.length (zs.map (.int .i32)) ∧ zs.length = ws.length ∧ (∀ vs, vecO ws = some vs → zs = vs) ∧ TkS w' b [] (bad || (vecO ws).isNone) ∧ w.grownBy w' (some b) := by
  obtain ⟨zs, h1, h2, h3, h4⟩ := h
  rw [List.take_of_length_le (Nat.le_refl _)] at h2 h3
  rw [List.drop_of_length_le (Nat.le_refl _)] at h3
  exact ⟨zs, h1, by have := h1.1; simpa using this, h2, h3, h4⟩
theorem TkS.cell1 {w : World} {b : Nat} {ws : List (List UInt8)} {bad : Bool} (h : TkS w b ws bad) : w.cell? ⟨b, 1, none⟩ = some (.bool bad) := by obtain ⟨_, A, m, c, h1, _⟩ := h; exact h1.cell 1
theorem TkS.frozen1 {w : World} {b : Nat} {ws : List (List UInt8)} {bad : Bool} (h : TkS w b ws bad) : w.frozen? ⟨b, 1, none⟩ = false := by obtain ⟨_, A, m, c, h1, _⟩ := h; exact h1.frozen 1
theorem stA_bool {w : World} {b : Nat} {ws : List (List UInt8)} {bad : Bool} (h : TkS w b ws bad) (v : Bool) : ∃ w', (Instr.storeAt 4 (.pointer (some ⟨b, 1, none⟩)) (.bool v)).run Tryd.prog w = .ok () w' ∧ TkS w' b ws v ∧ w.grownBy w' (some b) :=
  ⟨_, by have h1 := h.cell1; have h2 := h.frozen1; simp [go_sem, h1, h2], h.bad_ v, only_setCell (World.grownBy.refl w _) 1 _⟩
theorem beq_dec (word : List UInt8) : (word == [112, 105, 99, 107]) = decide (word = pickW) := by
  by_cases q : word = pickW
  · rw [decide_eq_true q]; exact beq_iff_eq.2 q
  · rw [decide_eq_false q]; exact beq_eq_false_iff_ne.2 q
theorem exec_buildA {P : Program} {ρ : Operand → Value} {o : Oper} {w w' : World} {n : Nat} {T : TypeId} {ps : Array (Nat × Operand)} {qs : Array (Nat × Value)} {v : Value} (hop : o.op = .buildSlice T n ps) (hq : (ps.map fun x => (x.1, ρ x.2)) = qs) (hr : (Instr.buildSlice T n qs).run P w = .ok v w') : (execOp ρ o).run P w = .ok (.value v) w' := by
  unfold execOp
  simp only [hop]
  have hq' : (ps.map fun x => (x.fst, ρ x.snd)) = qs := hq
  rw [Sem.run_bind]
  first
    | rw [hq', hr]
    | (simp only [hq', hr])
  rfl
theorem run_act1 (w : World) (cs : Array Value) (hs : cs.size = 8) : (Instr.buildSlice 24 1 #[(0, .agg cs)]).run Tryd.prog w = .ok (.slice (some ⟨w.heap.size, 0, none⟩) 1 1) (w.alloc (.cells cs 40)) := by
  obtain ⟨i, hi, hz, hz1, hz2⟩ := info_parts info_actR
  obtain ⟨l⟩ := cs
  match l, hs with
  | [a, b, c, d, e, f, g, h], _ =>
    refine Go.run_buildSlice w _ _ 1 _ _ i (.agg #[.int .i64 0, .int .i64 0, .int .u64 0, .slice none 0 0, .int .u64 0, .int .i64 0, .int .i64 0, .int .u64 0]) Tryd.underlying24 hi hz (by rw [hz1]; decide) (by rw [hz1]; decide) ?_
    rw [hz1]; kernel_rfl
theorem actsO_drop (ws : List (List UInt8)) : actsO ws = match numO ((ws.drop 1).headD []) 64 with
    | none => none
    | some wk => bodyO (ws.headD []) (kindN (ws.headD [])) wk (ws.drop 2) := by
  unfold actsO
  rw [List.drop_one, show ws.drop 2 = ws.tail.tail by rw [← List.drop_one, ← List.drop_one, List.drop_drop]]
  cases numO (ws.tail.headD []) 64 <;> rfl
theorem actsO_1 {ws : List (List UInt8)} (hk : kindN (ws.headD []) = 1) : actsO ws = match numO ((ws.drop 1).headD []) 64, numO ((ws.drop 2).headD []) evN, numO ((ws.drop 3).headD []) evN, numO ((ws.drop 4).headD []) evN, vecO (ws.drop 5) with
    | some wk, some id, some tg, some dr, some vs => some (⟨wk, 1, id, vs, tg, 0, 0, dr⟩, 1)
    | _, _, _, _, _ => none := by
  rw [actsO_drop, hk]
  cases numO ((ws.drop 1).headD []) 64 with
  | none => rfl
  | some wk =>
    dsimp only
    unfold bodyO
    rw [if_pos rfl, List.tail_drop, List.tail_drop, List.tail_drop]
    cases numO ((ws.drop 2).headD []) evN <;> cases numO ((ws.drop 3).headD []) evN <;> cases numO ((ws.drop 4).headD []) evN <;> cases vecO (ws.drop 5) <;> rfl
theorem actsO_4 {ws : List (List UInt8)} (hk : kindN (ws.headD []) = 4) : actsO ws = match numO ((ws.drop 1).headD []) 64, numO ((ws.drop 2).headD []) evN, numO ((ws.drop 3).headD []) 4096, numO ((ws.drop 4).headD []) 4096, vecO (ws.drop 5) with
    | some wk, some tg, some k, some ef, some vs => some (⟨wk, 4, 0, vs, tg, k, ef, 0⟩, 1)
    | _, _, _, _, _ => none := by
  rw [actsO_drop, hk]
  cases numO ((ws.drop 1).headD []) 64 with
  | none => rfl
  | some wk =>
    dsimp only
    unfold bodyO
    rw [if_neg (by decide), if_pos rfl, List.tail_drop, List.tail_drop, List.tail_drop]
    cases numO ((ws.drop 2).headD []) evN <;> cases numO ((ws.drop 3).headD []) 4096 <;> cases numO ((ws.drop 4).headD []) 4096 <;> cases vecO (ws.drop 5) <;> rfl
theorem actsO_2 {ws : List (List UInt8)} {kd : Int} (hk : kindN (ws.headD []) = kd) (hkd : kd = 2 ∨ kd = 3) : actsO ws = match numO ((ws.drop 1).headD []) 64, numO ((ws.drop 2).headD []) evN with
    | some wk, some id => if ws.drop 3 = [] then some (⟨wk, kd, id, [], 0, 0, 0, 0⟩, 1) else none
    | _, _ => none := by
  rw [actsO_drop, hk]
  cases numO ((ws.drop 1).headD []) 64 with
  | none => rfl
  | some wk =>
    dsimp only
    unfold bodyO
    rw [if_neg (by omega), if_neg (by omega), if_pos hkd, List.tail_drop]
    cases numO ((ws.drop 2).headD []) evN <;> rfl
theorem actsO_5 {ws : List (List UInt8)} {kd : Int} (hk : kindN (ws.headD []) = kd) (hkd : kd = 5 ∨ kd = 6) : actsO ws = match numO ((ws.drop 1).headD []) 64 with
    | some wk => if ws.drop 2 = [] then some (⟨wk, kd, 0, [], 0, 0, 0, 0⟩, 1) else none
    | none => none := by
  rw [actsO_drop, hk]
  cases numO ((ws.drop 1).headD []) 64 with
  | none => rfl
  | some wk =>
    dsimp only
    unfold bodyO
    rw [if_neg (by omega), if_neg (by omega), if_neg (by omega), if_pos hkd]
theorem actsO_0 {ws : List (List UInt8)} (hk : kindN (ws.headD []) = 0) : actsO ws = match numO ((ws.drop 1).headD []) 64, numO ((ws.drop 2).headD []) 4096 with
    | some wk, some n => if ws.drop 3 = [] ∧ ws.headD [] = pickW ∧ 1 ≤ n then some (pickA wk, n) else none
    | _, _ => none := by
  rw [actsO_drop, hk]
  cases numO ((ws.drop 1).headD []) 64 with
  | none => rfl
  | some wk =>
    dsimp only
    unfold bodyO
    rw [if_neg (by decide), if_neg (by decide), if_neg (by decide), if_neg (by decide), List.tail_drop]
    cases numO ((ws.drop 2).headD []) 4096 <;> rfl
set_option maxHeartbeats 16000000 in
set_option maxRecDepth 100000 in
/-- A line's acts. -/
theorem sc_acts (l : List UInt8) (hl : l.length ≤ 65536) (w : World) (he : Env w) :
    Calls Tryd.prog 28 #[.string ⟨l.toArray⟩] w fun e w' => Below w.heap.size w w' ∧
      match actsO (splitW l) with
      | none => e = .returned (.slice none 0 0)
      | some (a, n) => ∃ q V vn vc, e = .returned (.slice (some ⟨q, 0, none⟩) n n) ∧ w.heap.size ≤ q ∧ Blk w' q 40 (List.replicate n (actC a V vn vc)).flatten.toArray ∧ VecT w' V vn vc a.vec := by
  obtain ⟨R, hR⟩ : ∃ R : Ending → World → Prop, R = fun e w' => Below w.heap.size w w' ∧
      match actsO (splitW l) with
      | none => e = .returned (.slice none 0 0)
      | some (a, n) => ∃ q V vn vc, e = .returned (.slice (some ⟨q, 0, none⟩) n n) ∧ w.heap.size ≤ q ∧ Blk w' q 40 (List.replicate n (actC a V vn vc)).flatten.toArray ∧ VecT w' V vn vc a.vec := ⟨_, rfl⟩
  rw [← hR]
  have HR := Lib.hid hR
  have hT := TkS.begin l w he.lo
  have hSP := Lib.hid (sc_split l hl w he)
  have HE := Lib.hid he
  obtain ⟨ws, hws⟩ : ∃ ws, splitW l = ws := ⟨_, rfl⟩
  have HWN : Hid (ws.length ≤ 65537) := by show _ ≤ _; have := splitW_len l; rw [hws] at this; omega
  have HWW : Hid (∀ x ∈ ws, x.length ≤ 4294967280) := fun x hx => by
    have := splitW_word (l := l) (x := x) (by rw [hws]; exact hx)
    omega
  rw [hws] at hT hSP
  have HWS := Lib.hid hws
  obtain ⟨N, hN⟩ : ∃ N, ws.length = N := ⟨_, rfl⟩
  have HNN := Lib.hid hN
  rw [hN] at hT hSP
  obtain ⟨RW, hRW⟩ : ∃ RW : Array Value, (ws.map wv).toArray = RW := ⟨_, rfl⟩
  rw [hRW] at hT hSP
  have HT := Lib.hid hT
  have HNX := Lib.hid (tk_next (w.heap.size + 1) ws false _ hT)
  clear hR hT he hl hws hN hRW
  go_enter Tryd.func28, Tryd.ntmps28
  go_wp2_with (first
    | (go_at_call 35; refine hSP.out.mono ?_; rintro e w' ⟨rfl, hw'⟩; rw [hw']; clear hw')
    | (go_at_call 36; refine HNX.out.mono ?_))
  rintro e w1 ⟨rfl, ht1, hg1⟩
  obtain ⟨word, hword⟩ : ∃ x, ws.headD [] = x := ⟨_, rfl⟩
  obtain ⟨bd0, hbd0⟩ : ∃ x, (false || ws.isEmpty) = x := ⟨_, rfl⟩
  have HB0 : Hid (bd0 = true → numO ((ws.drop 1).headD []) 64 = none) := fun q => by
    rw [← hbd0] at q
    have : ws = [] := by simpa using q
    rw [this]
    exact numO_nil 64
  have HHD : Hid (∀ k, ((ws.drop k).headD []).length ≤ 4294967280) := fun k => by
    cases hk : ws.drop k with
    | nil => simp
    | cons x r => exact HWW.out x (List.mem_of_mem_drop (by rw [hk]; simp))
  rw [hbd0, ← List.drop_one] at ht1
  rw [hword]
  have HWD := Lib.hid hword
  have hB1 : Below w.heap.size w w1 := by
    have e1 := bel_boxX w (.cells RW 9)
    have e2 := bel_boxX (w.alloc (.cells RW 9)) (.cells #[.slice (some ⟨w.heap.size, 0, none⟩) N N, .bool false] 84)
    have e3 := e1.trans (e2.mono e1.size)
    exact e3.trans (below_of_only hg1 e3.size (by omega))
  have HN0 := Lib.hid (tk_num (w.heap.size + 1) (ws.drop 1) bd0 64 (HHD.out 1) w1 (HE.out.on hB1) ht1)
  have HB1 := Lib.hid hB1
  unfold wv
  clear hbd0 hword ht1 hg1 hB1 HT HNX hSP
  go_wp2_with (go_at_call 38; refine HN0.out.mono ?_)
  rintro e w2 ⟨n0, rfl, hn0, hu0, ht2, hg2⟩
  obtain ⟨z0, hz0, hz0'⟩ := convA (n := n0)
  obtain ⟨o0, ho0⟩ : ∃ o, numO ((ws.drop 1).headD []) 64 = o := ⟨_, rfl⟩
  rw [ho0] at hu0 ht2 HB0
  obtain ⟨bd1, hbd1⟩ : ∃ x, (bd0 || o0.isNone) = x := ⟨_, rfl⟩
  rw [hbd1, List.tail_drop] at ht2
  have HBD1 : Hid (bd1 = o0.isNone) := by
    show bd1 = _
    rw [← hbd1]
    cases hb : bd0 with
    | false => simp
    | true => rw [HB0.out hb]; rfl
  have HO0 := Lib.hid ho0
  have HZ0 : Hid (∀ u, o0 = some u → z0 = (u : Int)) := fun u hu => by
    have h1 := hu0 u hu
    rw [← h1] at hu
    have h2 := (numO_some (ho0.trans hu)).1
    rw [hz0' (by omega), h1]
  have hB2 : Below w.heap.size w w2 := HB1.out.trans (below_of_only hg2 HB1.out.size (by omega))
  obtain ⟨W3, hW3⟩ : ∃ W, w2.alloc (.cells #[.int .i64 z0, .int .i64 0, .int .u64 0, .slice none 0 0, .int .u64 0, .int .i64 0, .int .i64 0, .int .u64 0] 40) = W := ⟨_, rfl⟩
  obtain ⟨p, hp⟩ : ∃ p, w2.heap.size = p := ⟨_, rfl⟩
  have hA3 : AcS w W3 (w.heap.size + 1) p (ws.drop 2) bd1 #[.int .i64 z0, .int .i64 0, .int .u64 0, .slice none 0 0, .int .u64 0, .int .i64 0, .int .i64 0, .int .u64 0] := by
    have e := bel_boxX w2 (.cells #[.int .i64 z0, .int .i64 0, .int .u64 0, .slice none 0 0, .int .u64 0, .int .i64 0, .int .i64 0, .int .u64 0] 40)
    rw [hW3] at e
    refine ⟨ht2.grown e, by rw [← hW3, ← hp]; exact Blk.new _ _ _, by rw [← hp]; exact ht2.lt, by omega, hB2.trans (e.mono hB2.size)⟩
  have HA3 := Lib.hid hA3
  have HW3 := Lib.hid hW3
  have HP := Lib.hid hp
  clear hn0 hu0 ht2 hg2 ho0 hbd1 hB2 hW3 hA3 HN0 hz0' HB1 HB0 hp
  go_wp2_with fail
  rw [HW3.out, HP.out]
  clear HW3 HP hz0
  go_loopw [6] (fun s6 wr => ∃ j : Nat, 1 ≤ j ∧ j ≤ 7 ∧ s6 = .int .i64 j ∧ Hid (AcS w wr (w.heap.size + 1) p (ws.drop 2) bd1 #[.int .i64 z0, .int .i64 (kindF word (j - 1)), .int .u64 0, .slice none 0 0, .int .u64 0, .int .i64 0, .int .i64 0, .int .u64 0])) (fun s6 _ => 7 - (intOf s6).toNat)
  case atStart => exact ⟨1, by omega, by omega, rfl, HA3⟩
  case round =>
    clear HA3
    obtain ⟨j, hj1, hj7, rfl, HA⟩ := hrel
    by_cases hlt : j < 7
    · obtain ⟨i, rfl⟩ : ∃ i, j = i + 1 := ⟨j - 1, by omega⟩
      rw [Nat.add_sub_cancel] at HA
      have hNM := Lib.hid (sc_name ((i + 1 : Nat) : Int) wr)
      obtain ⟨W4, hst, hb4, hg4⟩ := stA_int (i := 1) (z := ((i + 1 : Nat) : Int)) HA.out.bl (show 1 < 8 by omega)
      have HA4 := Lib.hid (HA.out.set_ hb4 hg4)
      clear hb4 hg4
      by_cases hd : wordN ((i + 1 : Nat) : Int) = word
      · have hbe : (wordN ((i + 1 : Nat) : Int) == word) = true := beq_iff_eq.2 hd
        have HD := Lib.hid hd
        obtain ⟨nm, hnm⟩ : ∃ x, wordN ((i + 1 : Nat) : Int) = x := ⟨_, rfl⟩
        rw [hnm] at hNM hbe
        clear hd hnm
        go_wp2_with (first
          | (go_at_call 24; refine hNM.out.mono ?_; rintro e w' ⟨rfl, hw'⟩; rw [hw']; clear hw')
          | refine wpList_storeE hst _ _ rfl rfl rfl rfl ?_)
        go_roundw
        case rel => exact ⟨i + 2, by omega, by omega, by go_num, by
          rw [show i + 2 - 1 = i + 1 by omega, kindF, if_pos HD.out]
          exact HA4⟩
        case measure => simp [intOf]; omega
      · have hbe : (wordN ((i + 1 : Nat) : Int) == word) = false := beq_eq_false_iff_ne.2 hd
        have HD := Lib.hid hd
        obtain ⟨nm, hnm⟩ : ∃ x, wordN ((i + 1 : Nat) : Int) = x := ⟨_, rfl⟩
        rw [hnm] at hNM hbe
        clear hd hnm hst HA4
        go_wp2_with (go_at_call 24; refine hNM.out.mono ?_; rintro e w' ⟨rfl, hw'⟩; rw [hw']; clear hw')
        go_roundw
        case rel => exact ⟨i + 2, by omega, by omega, by go_num, by
          rw [show i + 2 - 1 = i + 1 by omega, kindF, if_neg HD.out]
          exact HA⟩
        case measure => simp [intOf]; omega
    · have hj : j = 7 := by omega
      subst hj
      rw [show 7 - 1 = 6 from rfl, kindF_six] at HA
      obtain ⟨kd, hkd⟩ : ∃ k, kindN word = k := ⟨_, rfl⟩
      have hkr := kind_range word
      rw [hkd] at HA hkr
      have HKN := Lib.hid hkd
      have HEN : Hid (Env wr) := HA.out.env HE.out
      clear hkd
      rcases (by omega : kd = 1 ∨ kd = 4 ∨ kd = 2 ∨ kd = 3 ∨ kd = 5 ∨ kd = 6 ∨ kd = 0) with rfl | rfl | rfl | rfl | rfl | rfl | rfl
      · have c1 : wr.cell? ⟨p, 1, none⟩ = some (.int .i64 1) := HA.out.bl.cell 1
        have hA0 := HA.out
        have hE0 := HEN.out
        have HNA := Lib.hid (tk_num (w.heap.size + 1) (ws.drop 2) bd1 18446744073709551615 (HHD.out 2) wr hE0 hA0.tk)
        have HA0' := Lib.hid hA0
        clear hA0 hE0
        go_wp2_with (go_at_call 38; refine HNA.out.mono ?_)
        rintro e W1 ⟨n1, rfl, hn1, hu1, ht1, hg1⟩
        obtain ⟨o1, ho1⟩ : ∃ o, numO ((ws.drop 2).headD []) 18446744073709551615 = o := ⟨_, rfl⟩
        rw [ho1] at hu1 ht1
        obtain ⟨bd2, hbd2⟩ : ∃ x, (bd1 || o1.isNone) = x := ⟨_, rfl⟩
        rw [hbd2, List.tail_drop] at ht1
        have hA1 := HA0'.out.num ht1 hg1
        have hE1 := hA1.env HE.out
        have HU1 := Lib.hid hu1
        have HO1 := Lib.hid ho1
        have HB2 := Lib.hid hbd2
        clear c1
        clear hu1 ho1 hbd2 ht1 hg1 hn1 HNA HA0'
        have HNA := Lib.hid (tk_num (w.heap.size + 1) (ws.drop 3) bd2 18446744073709551615 (HHD.out 3) W1 hE1 hA1.tk)
        have HA1' := Lib.hid hA1
        clear hA1 hE1
        go_wp2_with (go_at_call 38; refine HNA.out.mono ?_)
        rintro e W2 ⟨n2, rfl, hn2, hu2, ht2, hg2⟩
        obtain ⟨o2, ho2⟩ : ∃ o, numO ((ws.drop 3).headD []) 18446744073709551615 = o := ⟨_, rfl⟩
        rw [ho2] at hu2 ht2
        obtain ⟨bd3, hbd3⟩ : ∃ x, (bd2 || o2.isNone) = x := ⟨_, rfl⟩
        rw [hbd3, List.tail_drop] at ht2
        have hA2 := HA1'.out.num ht2 hg2
        have hE2 := hA2.env HE.out
        have HU2 := Lib.hid hu2
        have HO2 := Lib.hid ho2
        have HB3 := Lib.hid hbd3
        skip
        clear hu2 ho2 hbd3 ht2 hg2 hn2 HNA HA1'
        have HNA := Lib.hid (tk_num (w.heap.size + 1) (ws.drop 4) bd3 18446744073709551615 (HHD.out 4) W2 hE2 hA2.tk)
        have HA2' := Lib.hid hA2
        clear hA2 hE2
        go_wp2_with (go_at_call 38; refine HNA.out.mono ?_)
        rintro e W3 ⟨n3, rfl, hn3, hu3, ht3, hg3⟩
        obtain ⟨o3, ho3⟩ : ∃ o, numO ((ws.drop 4).headD []) 18446744073709551615 = o := ⟨_, rfl⟩
        rw [ho3] at hu3 ht3
        obtain ⟨bd4, hbd4⟩ : ∃ x, (bd3 || o3.isNone) = x := ⟨_, rfl⟩
        rw [hbd4, List.tail_drop] at ht3
        have hA3 := HA2'.out.num ht3 hg3
        have hE3 := hA3.env HE.out
        have HU3 := Lib.hid hu3
        have HO3 := Lib.hid ho3
        have HB4 := Lib.hid hbd4
        skip
        clear hu3 ho3 hbd4 ht3 hg3 hn3 HNA HA2'
        obtain ⟨X1, hs1, hb1, hgs1⟩ := stA_u64 (i := 2) (z := (n1 : Nat)) hA3.bl (show 2 < 8 by omega)
        have hX1 : AcS w X1 (w.heap.size + 1) p (ws.drop 5) bd4 #[.int .i64 z0, .int .i64 1, .int .u64 n1, .slice none 0 0, .int .u64 0, .int .i64 0, .int .i64 0, .int .u64 0] := hA3.set_ hb1 hgs1
        clear hb1 hgs1
        obtain ⟨X2, hs2, hb2, hgs2⟩ := stA_u64 (i := 4) (z := (n2 : Nat)) hX1.bl (show 4 < 8 by omega)
        have hX2 : AcS w X2 (w.heap.size + 1) p (ws.drop 5) bd4 #[.int .i64 z0, .int .i64 1, .int .u64 n1, .slice none 0 0, .int .u64 n2, .int .i64 0, .int .i64 0, .int .u64 0] := hX1.set_ hb2 hgs2
        clear hb2 hgs2
        obtain ⟨X3, hs3, hb3, hgs3⟩ := stA_u64 (i := 7) (z := (n3 : Nat)) hX2.bl (show 7 < 8 by omega)
        have hX3 : AcS w X3 (w.heap.size + 1) p (ws.drop 5) bd4 #[.int .i64 z0, .int .i64 1, .int .u64 n1, .slice none 0 0, .int .u64 n2, .int .i64 0, .int .i64 0, .int .u64 n3] := hX2.set_ hb3 hgs3
        clear hb3 hgs3
        have HVC := Lib.hid (tk_vector (w.heap.size + 1) (ws.drop 5) bd4 (fun x hx => HWW.out x (List.mem_of_mem_drop hx)) (by rw [List.length_drop]; have := HWN.out; omega) X3 (hX3.env HE.out) hX3.tk)
        have HAX := Lib.hid hX3
        obtain ⟨vl, hvl⟩ : ∃ n, (ws.drop 5).length = n := ⟨_, rfl⟩
        have HVL := Lib.hid hvl
        rw [hvl] at HVC
        clear hX1 hX2 hX3 hA3 hE3 hvl
        go_wp2_with (first
          | refine wpList_storeE hs1 _ _ rfl rfl rfl rfl ?_
          | refine wpList_storeE hs2 _ _ rfl rfl rfl rfl ?_
          | refine wpList_storeE hs3 _ _ rfl rfl rfl rfl ?_
          | (go_at_call 40; refine HVC.out.mono ?_))
        rintro e Wv ⟨V, vc, rfl, hve⟩
        rw [← HVL.out] at hve
        obtain ⟨vs, hown, hvsl, hvv, htv, hgv⟩ := hve.fin
        obtain ⟨ov, hov⟩ : ∃ o, vecO (ws.drop 5) = o := ⟨_, rfl⟩
        rw [hov] at hvv htv
        rw [HVL.out] at hown
        have hAv := HAX.out.num htv hgv
        obtain ⟨Wx, hsv, hbv, hgx⟩ := stA_vec (i := 3) (A := V) (n := vl) (m := vc) hAv.bl (show 3 < 8 by omega)
        have hAx : AcS w Wx (w.heap.size + 1) p [] (bd4 || ov.isNone) #[.int .i64 z0, .int .i64 1, .int .u64 n1, .slice V vl vc, .int .u64 n2, .int .i64 0, .int .i64 0, .int .u64 n3] := hAv.set_ hbv hgx
        have hpx : p < X3.heap.size := HAX.out.bl.lt
        have HVT : Hid (VecT Wx V vl vc vs) := ⟨World.ownsRow.mono (own_farS hown hgx hpx) (Nat.zero_le _), by rcases hown.2 with ⟨q, _⟩ | ⟨g, cap, cur, q, _, _, _, q2, _⟩ <;> (injection q with q _ q3; omega)⟩
        obtain ⟨bdf, hbdf⟩ : ∃ x, (bd4 || ov.isNone) = x := ⟨_, rfl⟩
        rw [hbdf] at hAx
        have HRT := Lib.hid (tk_right (w.heap.size + 1) [] bdf Wx hAx.tk)
        have HAF := Lib.hid hAx
        have HOV := Lib.hid hov
        have HVV := Lib.hid hvv
        have HBF := Lib.hid hbdf
        clear hve hown hvsl hvv htv hgv hov hAv hbv hgx hAx hpx hbdf HAX HVC
        have HKW : Hid (kindN (ws.headD []) = 1) := by show _ = _; rw [HWD.out]; exact HKN.out
        obtain ⟨em, hem⟩ : ∃ x, [].isEmpty = x := ⟨_, rfl⟩
        rw [hem] at HRT
        have HEM := Lib.hid hem
        have HAC := Lib.hid (actsO_1 (ws := ws) HKW.out)
        have HOX : Hid (numO ((ws.drop 1).headD []) 64 = o0) := HO0
        clear hem
        have HBX : Hid (bdf = ((((o0.isNone || o1.isNone) || o2.isNone) || o3.isNone) || ov.isNone)) := by
          have q1 := HBD1.out
          have q2 := HB2.out
          have q3 := HB3.out
          have q4 := HB4.out
          have qf := HBF.out
          show _ = _
          rw [← qf, ← q4, ← q3, ← q2, q1]
        clear HBF
        cases bdf with
        | true =>
          skip
          have hb0 : (((((o0.isNone || o1.isNone) || o2.isNone) || o3.isNone) || ov.isNone)) = true := HBX.out.symm
          go_wp2_with (first
            | refine wpList_storeE hsv _ _ rfl rfl rfl rfl ?_
            | (go_at_call 39; refine HRT.out.mono ?_; rintro e w' ⟨rfl, hw'⟩; rw [hw']; clear hw'))
          rw [HR.out]
          refine ⟨HAF.out.be, ?_⟩
          have hno : actsO (splitW l) = none := by
            rw [HWS.out, HAC.out, HOX.out, (show numO ((ws.drop 2).headD []) evN = _ from HO1.out), (show numO ((ws.drop 3).headD []) evN = _ from HO2.out), (show numO ((ws.drop 4).headD []) evN = _ from HO3.out), HOV.out]
            have hb0 := hb0
            cases o0 <;> cases o1 <;> cases o2 <;> cases o3 <;> cases ov <;> first | rfl | (exact absurd hb0 (by simp))
          rw [hno]
          rfl
        | false =>
          have hb0 : (((((o0.isNone || o1.isNone) || o2.isNone) || o3.isNone) || ov.isNone)) = false := HBX.out.symm
          obtain ⟨u0, rfl⟩ : ∃ u, o0 = some u := by
            cases o0 with
            | none => exact absurd hb0 (by simp)
            | some u => exact ⟨u, rfl⟩
          obtain ⟨u1, rfl⟩ : ∃ u, o1 = some u := by
            cases o1 with
            | none => exact absurd hb0 (by simp)
            | some u => exact ⟨u, rfl⟩
          obtain ⟨u2, rfl⟩ : ∃ u, o2 = some u := by
            cases o2 with
            | none => exact absurd hb0 (by simp)
            | some u => exact ⟨u, rfl⟩
          obtain ⟨u3, rfl⟩ : ∃ u, o3 = some u := by
            cases o3 with
            | none => exact absurd hb0 (by simp)
            | some u => exact ⟨u, rfl⟩
          obtain ⟨uv, rfl⟩ : ∃ u, ov = some u := by
            cases ov with
            | none => exact absurd hb0 (by simp)
            | some u => exact ⟨u, rfl⟩
          have e0 := HZ0.out u0 rfl
          subst e0
          have e1 := HU1.out u1 rfl
          subst e1
          have e2 := HU2.out u2 rfl
          subst e2
          have e3 := HU3.out u3 rfl
          subst e3
          have ev := HVV.out uv rfl
          subst ev
          have hemt : em = true := HEM.out.symm
          subst hemt
          have LD : (Instr.loadAt 40 (.pointer (some ⟨p, 0, none⟩))).run Tryd.prog Wx = .ok (.agg #[.int .i64 u0, .int .i64 1, .int .u64 n1, .slice V vl vc, .int .u64 n2, .int .i64 0, .int .i64 0, .int .u64 n3]) Wx := actA_blk HAF.out.bl rfl
          have HRP := Lib.hid (sl_repeat Wx.heap.size 1 #[.int .i64 u0, .int .i64 1, .int .u64 n1, .slice V vl vc, .int .u64 n2, .int .i64 0, .int .i64 0, .int .u64 n3] rfl (fun v hv => by
            simp only [List.mem_cons, List.not_mem_nil, or_false] at hv
            rcases hv with rfl | rfl | rfl | rfl | rfl | rfl | rfl | rfl <;> rfl) (by omega) (by omega) (Wx.alloc (.cells #[.int .i64 u0, .int .i64 1, .int .u64 n1, .slice V vl vc, .int .u64 n2, .int .i64 0, .int .i64 0, .int .u64 n3] 40)) (Blk.new _ _ _))
          go_wp2_with (first
            | refine wpList_storeE hsv _ _ rfl rfl rfl rfl ?_
            | (go_at_call 39; refine HRT.out.mono ?_; rintro e w' ⟨rfl, hw'⟩; rw [hw']; clear hw')
            | refine wpList_loadE LD _ rfl rfl rfl ?_
            | refine wpList_valR rfl (exec_buildA rfl (by first | kernel_rfl | simp [Act.eval]) (run_act1 _ #[.int .i64 u0, .int .i64 1, .int .u64 n1, .slice V vl vc, .int .u64 n2, .int .i64 0, .int .i64 0, .int .u64 n3] rfl)) ?_
            | (go_at_call 41; refine HRP.out.mono ?_))
          rintro e w9 ⟨rfl, hb9, hbel9⟩
          have HB9 := Lib.hid hb9
          have HBE9 := Lib.hid hbel9
          clear hb9 hbel9 LD
          go_wp2
          rw [HR.out]
          have hbx := bel_boxX Wx (.cells #[.int .i64 u0, .int .i64 1, .int .u64 n1, .slice V vl vc, .int .u64 n2, .int .i64 0, .int .i64 0, .int .u64 n3] 40)
          have hall : Below Wx.heap.size Wx w9 := hbx.trans (HBE9.out.mono hbx.size)
          refine ⟨HAF.out.be.trans (hall.mono HAF.out.be.size), ?_⟩
          have hac : actsO (splitW l) = some (⟨(u0 : Int), 1, n1, vs, n2, 0, 0, n3⟩, 1) := by
            rw [HWS.out, HAC.out, HOX.out, (show numO ((ws.drop 2).headD []) evN = _ from HO1.out), (show numO ((ws.drop 3).headD []) evN = _ from HO2.out), (show numO ((ws.drop 4).headD []) evN = _ from HO3.out), HOV.out]
            try rfl
          rw [hac]
          have hb9 := HB9.out
          have hsz := hbx.size
          rw [alloc_sizeX] at hb9 hsz
          exact ⟨_, V, vl, vc, rfl, Nat.le_trans HAF.out.be.size hsz, hb9, ⟨own_keepS HVT.out.1 hall, HVT.out.2⟩⟩
      · have c1 : wr.cell? ⟨p, 1, none⟩ = some (.int .i64 4) := HA.out.bl.cell 1
        have hA0 := HA.out
        have hE0 := HEN.out
        have HNA := Lib.hid (tk_num (w.heap.size + 1) (ws.drop 2) bd1 18446744073709551615 (HHD.out 2) wr hE0 hA0.tk)
        have HA0' := Lib.hid hA0
        clear hA0 hE0
        go_wp2_with (go_at_call 38; refine HNA.out.mono ?_)
        rintro e W1 ⟨n1, rfl, hn1, hu1, ht1, hg1⟩
        obtain ⟨o1, ho1⟩ : ∃ o, numO ((ws.drop 2).headD []) 18446744073709551615 = o := ⟨_, rfl⟩
        rw [ho1] at hu1 ht1
        obtain ⟨bd2, hbd2⟩ : ∃ x, (bd1 || o1.isNone) = x := ⟨_, rfl⟩
        rw [hbd2, List.tail_drop] at ht1
        have hA1 := HA0'.out.num ht1 hg1
        have hE1 := hA1.env HE.out
        have HU1 := Lib.hid hu1
        have HO1 := Lib.hid ho1
        have HB2 := Lib.hid hbd2
        clear c1
        clear hu1 ho1 hbd2 ht1 hg1 hn1 HNA HA0'
        have HNA := Lib.hid (tk_num (w.heap.size + 1) (ws.drop 3) bd2 4096 (HHD.out 3) W1 hE1 hA1.tk)
        have HA1' := Lib.hid hA1
        clear hA1 hE1
        go_wp2_with (go_at_call 38; refine HNA.out.mono ?_)
        rintro e W2 ⟨n2, rfl, hn2, hu2, ht2, hg2⟩
        obtain ⟨o2, ho2⟩ : ∃ o, numO ((ws.drop 3).headD []) 4096 = o := ⟨_, rfl⟩
        rw [ho2] at hu2 ht2
        obtain ⟨bd3, hbd3⟩ : ∃ x, (bd2 || o2.isNone) = x := ⟨_, rfl⟩
        rw [hbd3, List.tail_drop] at ht2
        have hA2 := HA1'.out.num ht2 hg2
        have hE2 := hA2.env HE.out
        have HU2 := Lib.hid hu2
        have HO2 := Lib.hid ho2
        have HB3 := Lib.hid hbd3
        skip
        clear hu2 ho2 hbd3 ht2 hg2 hn2 HNA HA1'
        obtain ⟨z2, hz2, hzz2⟩ := convA (n := n2)
        have HZ2 : Hid (∀ u, o2 = some u → z2 = (u : Int)) := fun u hu => by
          have h1 := HU2.out u hu
          rw [← h1] at hu
          have h2 := (numO_some (HO2.out.trans hu)).1
          rw [hzz2 (by omega), h1]
        clear hzz2
        have HNA := Lib.hid (tk_num (w.heap.size + 1) (ws.drop 4) bd3 4096 (HHD.out 4) W2 hE2 hA2.tk)
        have HA2' := Lib.hid hA2
        clear hA2 hE2
        go_wp2_with (go_at_call 38; refine HNA.out.mono ?_)
        rintro e W3 ⟨n3, rfl, hn3, hu3, ht3, hg3⟩
        obtain ⟨o3, ho3⟩ : ∃ o, numO ((ws.drop 4).headD []) 4096 = o := ⟨_, rfl⟩
        rw [ho3] at hu3 ht3
        obtain ⟨bd4, hbd4⟩ : ∃ x, (bd3 || o3.isNone) = x := ⟨_, rfl⟩
        rw [hbd4, List.tail_drop] at ht3
        have hA3 := HA2'.out.num ht3 hg3
        have hE3 := hA3.env HE.out
        have HU3 := Lib.hid hu3
        have HO3 := Lib.hid ho3
        have HB4 := Lib.hid hbd4
        skip
        clear hu3 ho3 hbd4 ht3 hg3 hn3 HNA HA2'
        obtain ⟨z3, hz3, hzz3⟩ := convA (n := n3)
        have HZ3 : Hid (∀ u, o3 = some u → z3 = (u : Int)) := fun u hu => by
          have h1 := HU3.out u hu
          rw [← h1] at hu
          have h2 := (numO_some (HO3.out.trans hu)).1
          rw [hzz3 (by omega), h1]
        clear hzz3
        obtain ⟨X1, hs1, hb1, hgs1⟩ := stA_u64 (i := 4) (z := (n1 : Nat)) hA3.bl (show 4 < 8 by omega)
        have hX1 : AcS w X1 (w.heap.size + 1) p (ws.drop 5) bd4 #[.int .i64 z0, .int .i64 4, .int .u64 0, .slice none 0 0, .int .u64 n1, .int .i64 0, .int .i64 0, .int .u64 0] := hA3.set_ hb1 hgs1
        clear hb1 hgs1
        obtain ⟨X2, hs2, hb2, hgs2⟩ := stA_int (i := 5) (z := z2) hX1.bl (show 5 < 8 by omega)
        have hX2 : AcS w X2 (w.heap.size + 1) p (ws.drop 5) bd4 #[.int .i64 z0, .int .i64 4, .int .u64 0, .slice none 0 0, .int .u64 n1, .int .i64 z2, .int .i64 0, .int .u64 0] := hX1.set_ hb2 hgs2
        clear hb2 hgs2
        obtain ⟨X3, hs3, hb3, hgs3⟩ := stA_int (i := 6) (z := z3) hX2.bl (show 6 < 8 by omega)
        have hX3 : AcS w X3 (w.heap.size + 1) p (ws.drop 5) bd4 #[.int .i64 z0, .int .i64 4, .int .u64 0, .slice none 0 0, .int .u64 n1, .int .i64 z2, .int .i64 z3, .int .u64 0] := hX2.set_ hb3 hgs3
        clear hb3 hgs3
        have HVC := Lib.hid (tk_vector (w.heap.size + 1) (ws.drop 5) bd4 (fun x hx => HWW.out x (List.mem_of_mem_drop hx)) (by rw [List.length_drop]; have := HWN.out; omega) X3 (hX3.env HE.out) hX3.tk)
        have HAX := Lib.hid hX3
        obtain ⟨vl, hvl⟩ : ∃ n, (ws.drop 5).length = n := ⟨_, rfl⟩
        have HVL := Lib.hid hvl
        rw [hvl] at HVC
        clear hX1 hX2 hX3 hA3 hE3 hvl
        go_wp2_with (first
          | refine wpList_storeE hs1 _ _ rfl rfl rfl rfl ?_
          | refine wpList_storeE hs2 _ _ rfl rfl rfl rfl ?_
          | refine wpList_storeE hs3 _ _ rfl rfl rfl rfl ?_
          | (go_at_call 40; refine HVC.out.mono ?_))
        rintro e Wv ⟨V, vc, rfl, hve⟩
        rw [← HVL.out] at hve
        obtain ⟨vs, hown, hvsl, hvv, htv, hgv⟩ := hve.fin
        obtain ⟨ov, hov⟩ : ∃ o, vecO (ws.drop 5) = o := ⟨_, rfl⟩
        rw [hov] at hvv htv
        rw [HVL.out] at hown
        have hAv := HAX.out.num htv hgv
        obtain ⟨Wx, hsv, hbv, hgx⟩ := stA_vec (i := 3) (A := V) (n := vl) (m := vc) hAv.bl (show 3 < 8 by omega)
        have hAx : AcS w Wx (w.heap.size + 1) p [] (bd4 || ov.isNone) #[.int .i64 z0, .int .i64 4, .int .u64 0, .slice V vl vc, .int .u64 n1, .int .i64 z2, .int .i64 z3, .int .u64 0] := hAv.set_ hbv hgx
        have hpx : p < X3.heap.size := HAX.out.bl.lt
        have HVT : Hid (VecT Wx V vl vc vs) := ⟨World.ownsRow.mono (own_farS hown hgx hpx) (Nat.zero_le _), by rcases hown.2 with ⟨q, _⟩ | ⟨g, cap, cur, q, _, _, _, q2, _⟩ <;> (injection q with q _ q3; omega)⟩
        obtain ⟨bdf, hbdf⟩ : ∃ x, (bd4 || ov.isNone) = x := ⟨_, rfl⟩
        rw [hbdf] at hAx
        have HRT := Lib.hid (tk_right (w.heap.size + 1) [] bdf Wx hAx.tk)
        have HAF := Lib.hid hAx
        have HOV := Lib.hid hov
        have HVV := Lib.hid hvv
        have HBF := Lib.hid hbdf
        clear hve hown hvsl hvv htv hgv hov hAv hbv hgx hAx hpx hbdf HAX HVC
        have HKW : Hid (kindN (ws.headD []) = 4) := by show _ = _; rw [HWD.out]; exact HKN.out
        obtain ⟨em, hem⟩ : ∃ x, [].isEmpty = x := ⟨_, rfl⟩
        rw [hem] at HRT
        have HEM := Lib.hid hem
        have HAC := Lib.hid (actsO_4 (ws := ws) HKW.out)
        have HOX : Hid (numO ((ws.drop 1).headD []) 64 = o0) := HO0
        clear hem
        have HBX : Hid (bdf = ((((o0.isNone || o1.isNone) || o2.isNone) || o3.isNone) || ov.isNone)) := by
          have q1 := HBD1.out
          have q2 := HB2.out
          have q3 := HB3.out
          have q4 := HB4.out
          have qf := HBF.out
          show _ = _
          rw [← qf, ← q4, ← q3, ← q2, q1]
        clear HBF
        cases bdf with
        | true =>
          skip
          have hb0 : (((((o0.isNone || o1.isNone) || o2.isNone) || o3.isNone) || ov.isNone)) = true := HBX.out.symm
          go_wp2_with (first
            | refine wpList_storeE hsv _ _ rfl rfl rfl rfl ?_
            | (go_at_call 39; refine HRT.out.mono ?_; rintro e w' ⟨rfl, hw'⟩; rw [hw']; clear hw'))
          rw [HR.out]
          refine ⟨HAF.out.be, ?_⟩
          have hno : actsO (splitW l) = none := by
            rw [HWS.out, HAC.out, HOX.out, (show numO ((ws.drop 2).headD []) evN = _ from HO1.out), (show numO ((ws.drop 3).headD []) 4096 = _ from HO2.out), (show numO ((ws.drop 4).headD []) 4096 = _ from HO3.out), HOV.out]
            have hb0 := hb0
            cases o0 <;> cases o1 <;> cases o2 <;> cases o3 <;> cases ov <;> first | rfl | (exact absurd hb0 (by simp))
          rw [hno]
          rfl
        | false =>
          have hb0 : (((((o0.isNone || o1.isNone) || o2.isNone) || o3.isNone) || ov.isNone)) = false := HBX.out.symm
          obtain ⟨u0, rfl⟩ : ∃ u, o0 = some u := by
            cases o0 with
            | none => exact absurd hb0 (by simp)
            | some u => exact ⟨u, rfl⟩
          obtain ⟨u1, rfl⟩ : ∃ u, o1 = some u := by
            cases o1 with
            | none => exact absurd hb0 (by simp)
            | some u => exact ⟨u, rfl⟩
          obtain ⟨u2, rfl⟩ : ∃ u, o2 = some u := by
            cases o2 with
            | none => exact absurd hb0 (by simp)
            | some u => exact ⟨u, rfl⟩
          obtain ⟨u3, rfl⟩ : ∃ u, o3 = some u := by
            cases o3 with
            | none => exact absurd hb0 (by simp)
            | some u => exact ⟨u, rfl⟩
          obtain ⟨uv, rfl⟩ : ∃ u, ov = some u := by
            cases ov with
            | none => exact absurd hb0 (by simp)
            | some u => exact ⟨u, rfl⟩
          have e0 := HZ0.out u0 rfl
          subst e0
          have e1 := HU1.out u1 rfl
          subst e1
          have e2 := HZ2.out u2 rfl
          subst e2
          have e3 := HZ3.out u3 rfl
          subst e3
          have ev := HVV.out uv rfl
          subst ev
          have hemt : em = true := HEM.out.symm
          subst hemt
          have LD : (Instr.loadAt 40 (.pointer (some ⟨p, 0, none⟩))).run Tryd.prog Wx = .ok (.agg #[.int .i64 u0, .int .i64 4, .int .u64 0, .slice V vl vc, .int .u64 n1, .int .i64 u2, .int .i64 u3, .int .u64 0]) Wx := actA_blk HAF.out.bl rfl
          have HRP := Lib.hid (sl_repeat Wx.heap.size 1 #[.int .i64 u0, .int .i64 4, .int .u64 0, .slice V vl vc, .int .u64 n1, .int .i64 u2, .int .i64 u3, .int .u64 0] rfl (fun v hv => by
            simp only [List.mem_cons, List.not_mem_nil, or_false] at hv
            rcases hv with rfl | rfl | rfl | rfl | rfl | rfl | rfl | rfl <;> rfl) (by omega) (by omega) (Wx.alloc (.cells #[.int .i64 u0, .int .i64 4, .int .u64 0, .slice V vl vc, .int .u64 n1, .int .i64 u2, .int .i64 u3, .int .u64 0] 40)) (Blk.new _ _ _))
          go_wp2_with (first
            | refine wpList_storeE hsv _ _ rfl rfl rfl rfl ?_
            | (go_at_call 39; refine HRT.out.mono ?_; rintro e w' ⟨rfl, hw'⟩; rw [hw']; clear hw')
            | refine wpList_loadE LD _ rfl rfl rfl ?_
            | refine wpList_valR rfl (exec_buildA rfl (by first | kernel_rfl | simp [Act.eval]) (run_act1 _ #[.int .i64 u0, .int .i64 4, .int .u64 0, .slice V vl vc, .int .u64 n1, .int .i64 u2, .int .i64 u3, .int .u64 0] rfl)) ?_
            | (go_at_call 41; refine HRP.out.mono ?_))
          rintro e w9 ⟨rfl, hb9, hbel9⟩
          have HB9 := Lib.hid hb9
          have HBE9 := Lib.hid hbel9
          clear hb9 hbel9 LD
          go_wp2
          rw [HR.out]
          have hbx := bel_boxX Wx (.cells #[.int .i64 u0, .int .i64 4, .int .u64 0, .slice V vl vc, .int .u64 n1, .int .i64 u2, .int .i64 u3, .int .u64 0] 40)
          have hall : Below Wx.heap.size Wx w9 := hbx.trans (HBE9.out.mono hbx.size)
          refine ⟨HAF.out.be.trans (hall.mono HAF.out.be.size), ?_⟩
          have hac : actsO (splitW l) = some (⟨(u0 : Int), 4, 0, vs, n1, u2, u3, 0⟩, 1) := by
            rw [HWS.out, HAC.out, HOX.out, (show numO ((ws.drop 2).headD []) evN = _ from HO1.out), (show numO ((ws.drop 3).headD []) 4096 = _ from HO2.out), (show numO ((ws.drop 4).headD []) 4096 = _ from HO3.out), HOV.out]
            try rfl
          rw [hac]
          have hb9 := HB9.out
          have hsz := hbx.size
          rw [alloc_sizeX] at hb9 hsz
          exact ⟨_, V, vl, vc, rfl, Nat.le_trans HAF.out.be.size hsz, hb9, ⟨own_keepS HVT.out.1 hall, HVT.out.2⟩⟩
      · have c1 : wr.cell? ⟨p, 1, none⟩ = some (.int .i64 2) := HA.out.bl.cell 1
        have hA0 := HA.out
        have hE0 := HEN.out
        have HNA := Lib.hid (tk_num (w.heap.size + 1) (ws.drop 2) bd1 18446744073709551615 (HHD.out 2) wr hE0 hA0.tk)
        have HA0' := Lib.hid hA0
        clear hA0 hE0
        go_wp2_with (go_at_call 38; refine HNA.out.mono ?_)
        rintro e W1 ⟨n1, rfl, hn1, hu1, ht1, hg1⟩
        obtain ⟨o1, ho1⟩ : ∃ o, numO ((ws.drop 2).headD []) 18446744073709551615 = o := ⟨_, rfl⟩
        rw [ho1] at hu1 ht1
        obtain ⟨bd2, hbd2⟩ : ∃ x, (bd1 || o1.isNone) = x := ⟨_, rfl⟩
        rw [hbd2, List.tail_drop] at ht1
        have hA1 := HA0'.out.num ht1 hg1
        have hE1 := hA1.env HE.out
        have HU1 := Lib.hid hu1
        have HO1 := Lib.hid ho1
        have HB2 := Lib.hid hbd2
        clear c1
        clear hu1 ho1 hbd2 ht1 hg1 hn1 HNA HA0'
        obtain ⟨X1, hs1, hb1, hgs1⟩ := stA_u64 (i := 2) (z := (n1 : Nat)) hA1.bl (show 2 < 8 by omega)
        have hX1 : AcS w X1 (w.heap.size + 1) p (ws.drop 3) bd2 #[.int .i64 z0, .int .i64 2, .int .u64 n1, .slice none 0 0, .int .u64 0, .int .i64 0, .int .i64 0, .int .u64 0] := hA1.set_ hb1 hgs1
        clear hb1 hgs1
        have HVT : Hid (VecT X1 none 0 0 []) := VecT.nil_ _
        obtain ⟨bdf, hbdf⟩ : ∃ x, bd2 = x := ⟨_, rfl⟩
        have hAf := hX1
        rw [hbdf] at hAf
        have HRT := Lib.hid (tk_right (w.heap.size + 1) (ws.drop 3) bdf X1 hAf.tk)
        have HAF := Lib.hid hAf
        have HBF := Lib.hid hbdf
        clear hAf hbdf hX1 hA1 hE1
        have HKW : Hid (kindN (ws.headD []) = 2) := by show _ = _; rw [HWD.out]; exact HKN.out
        obtain ⟨em, hem⟩ : ∃ x, (ws.drop 3).isEmpty = x := ⟨_, rfl⟩
        rw [hem] at HRT
        have HEM := Lib.hid hem
        have HAC := Lib.hid (actsO_2 (ws := ws) HKW.out (by decide))
        have HOX : Hid (numO ((ws.drop 1).headD []) 64 = o0) := HO0
        clear hem
        have HBX : Hid (bdf = (o0.isNone || o1.isNone)) := by
          have q1 := HBD1.out
          have q2 := HB2.out
          have qf := HBF.out
          show _ = _
          rw [← qf, ← q2, q1]
        clear HBF
        cases bdf with
        | true =>
          skip
          have hb0 : ((o0.isNone || o1.isNone)) = true := HBX.out.symm
          go_wp2_with (first
            | refine wpList_storeE hs1 _ _ rfl rfl rfl rfl ?_
            | (go_at_call 39; refine HRT.out.mono ?_; rintro e w' ⟨rfl, hw'⟩; rw [hw']; clear hw'))
          rw [HR.out]
          refine ⟨HAF.out.be, ?_⟩
          have hno : actsO (splitW l) = none := by
            rw [HWS.out, HAC.out, HOX.out, (show numO ((ws.drop 2).headD []) evN = _ from HO1.out)]
            cases o0 <;> cases o1 <;> first | rfl | (exact absurd hb0 (by simp))
          rw [hno]
          rfl
        | false =>
          have hb0 : ((o0.isNone || o1.isNone)) = false := HBX.out.symm
          obtain ⟨u0, rfl⟩ : ∃ u, o0 = some u := by
            cases o0 with
            | none => exact absurd hb0 (by simp)
            | some u => exact ⟨u, rfl⟩
          obtain ⟨u1, rfl⟩ : ∃ u, o1 = some u := by
            cases o1 with
            | none => exact absurd hb0 (by simp)
            | some u => exact ⟨u, rfl⟩
          have e0 := HZ0.out u0 rfl
          subst e0
          have e1 := HU1.out u1 rfl
          subst e1
          cases em with
          | false =>
            go_wp2_with (first
              | refine wpList_storeE hs1 _ _ rfl rfl rfl rfl ?_
              | (go_at_call 39; refine HRT.out.mono ?_; rintro e w' ⟨rfl, hw'⟩; rw [hw']; clear hw'))
            rw [HR.out]
            refine ⟨HAF.out.be, ?_⟩
            have hno : actsO (splitW l) = none := by
              rw [HWS.out, HAC.out, HOX.out, (show numO ((ws.drop 2).headD []) evN = _ from HO1.out)]
              have hem := HEM.out
              dsimp only
              rw [if_neg (fun q => by rw [q] at hem; cases hem)]
            rw [hno]
            rfl

          | true =>
            have hem : ws.drop 3 = [] := by simpa using HEM.out
            have LD : (Instr.loadAt 40 (.pointer (some ⟨p, 0, none⟩))).run Tryd.prog X1 = .ok (.agg #[.int .i64 u0, .int .i64 2, .int .u64 n1, .slice none 0 0, .int .u64 0, .int .i64 0, .int .i64 0, .int .u64 0]) X1 := actA_blk HAF.out.bl rfl
            have HRP := Lib.hid (sl_repeat X1.heap.size 1 #[.int .i64 u0, .int .i64 2, .int .u64 n1, .slice none 0 0, .int .u64 0, .int .i64 0, .int .i64 0, .int .u64 0] rfl (fun v hv => by
              simp only [List.mem_cons, List.not_mem_nil, or_false] at hv
              rcases hv with rfl | rfl | rfl | rfl | rfl | rfl | rfl | rfl <;> rfl) (by omega) (by omega) (X1.alloc (.cells #[.int .i64 u0, .int .i64 2, .int .u64 n1, .slice none 0 0, .int .u64 0, .int .i64 0, .int .i64 0, .int .u64 0] 40)) (Blk.new _ _ _))
            go_wp2_with (first
              | refine wpList_storeE hs1 _ _ rfl rfl rfl rfl ?_
              | (go_at_call 39; refine HRT.out.mono ?_; rintro e w' ⟨rfl, hw'⟩; rw [hw']; clear hw')
              | refine wpList_loadE LD _ rfl rfl rfl ?_
              | refine wpList_valR rfl (exec_buildA rfl (by first | kernel_rfl | simp [Act.eval]) (run_act1 _ #[.int .i64 u0, .int .i64 2, .int .u64 n1, .slice none 0 0, .int .u64 0, .int .i64 0, .int .i64 0, .int .u64 0] rfl)) ?_
              | (go_at_call 41; refine HRP.out.mono ?_))
            rintro e w9 ⟨rfl, hb9, hbel9⟩
            have HB9 := Lib.hid hb9
            have HBE9 := Lib.hid hbel9
            clear hb9 hbel9 LD
            go_wp2
            rw [HR.out]
            have hbx := bel_boxX X1 (.cells #[.int .i64 u0, .int .i64 2, .int .u64 n1, .slice none 0 0, .int .u64 0, .int .i64 0, .int .i64 0, .int .u64 0] 40)
            have hall : Below X1.heap.size X1 w9 := hbx.trans (HBE9.out.mono hbx.size)
            refine ⟨HAF.out.be.trans (hall.mono HAF.out.be.size), ?_⟩
            have hac : actsO (splitW l) = some (⟨(u0 : Int), 2, n1, [], 0, 0, 0, 0⟩, 1) := by
              rw [HWS.out, HAC.out, HOX.out, (show numO ((ws.drop 2).headD []) evN = _ from HO1.out)]
              dsimp only
              rw [if_pos hem]
              try rfl
            rw [hac]
            have hb9 := HB9.out
            have hsz := hbx.size
            rw [alloc_sizeX] at hb9 hsz
            exact ⟨_, none, 0, 0, rfl, Nat.le_trans HAF.out.be.size hsz, hb9, ⟨own_keepS HVT.out.1 hall, HVT.out.2⟩⟩
      · have c1 : wr.cell? ⟨p, 1, none⟩ = some (.int .i64 3) := HA.out.bl.cell 1
        have hA0 := HA.out
        have hE0 := HEN.out
        have HNA := Lib.hid (tk_num (w.heap.size + 1) (ws.drop 2) bd1 18446744073709551615 (HHD.out 2) wr hE0 hA0.tk)
        have HA0' := Lib.hid hA0
        clear hA0 hE0
        go_wp2_with (go_at_call 38; refine HNA.out.mono ?_)
        rintro e W1 ⟨n1, rfl, hn1, hu1, ht1, hg1⟩
        obtain ⟨o1, ho1⟩ : ∃ o, numO ((ws.drop 2).headD []) 18446744073709551615 = o := ⟨_, rfl⟩
        rw [ho1] at hu1 ht1
        obtain ⟨bd2, hbd2⟩ : ∃ x, (bd1 || o1.isNone) = x := ⟨_, rfl⟩
        rw [hbd2, List.tail_drop] at ht1
        have hA1 := HA0'.out.num ht1 hg1
        have hE1 := hA1.env HE.out
        have HU1 := Lib.hid hu1
        have HO1 := Lib.hid ho1
        have HB2 := Lib.hid hbd2
        clear c1
        clear hu1 ho1 hbd2 ht1 hg1 hn1 HNA HA0'
        obtain ⟨X1, hs1, hb1, hgs1⟩ := stA_u64 (i := 2) (z := (n1 : Nat)) hA1.bl (show 2 < 8 by omega)
        have hX1 : AcS w X1 (w.heap.size + 1) p (ws.drop 3) bd2 #[.int .i64 z0, .int .i64 3, .int .u64 n1, .slice none 0 0, .int .u64 0, .int .i64 0, .int .i64 0, .int .u64 0] := hA1.set_ hb1 hgs1
        clear hb1 hgs1
        have HVT : Hid (VecT X1 none 0 0 []) := VecT.nil_ _
        obtain ⟨bdf, hbdf⟩ : ∃ x, bd2 = x := ⟨_, rfl⟩
        have hAf := hX1
        rw [hbdf] at hAf
        have HRT := Lib.hid (tk_right (w.heap.size + 1) (ws.drop 3) bdf X1 hAf.tk)
        have HAF := Lib.hid hAf
        have HBF := Lib.hid hbdf
        clear hAf hbdf hX1 hA1 hE1
        have HKW : Hid (kindN (ws.headD []) = 3) := by show _ = _; rw [HWD.out]; exact HKN.out
        obtain ⟨em, hem⟩ : ∃ x, (ws.drop 3).isEmpty = x := ⟨_, rfl⟩
        rw [hem] at HRT
        have HEM := Lib.hid hem
        have HAC := Lib.hid (actsO_2 (ws := ws) HKW.out (by decide))
        have HOX : Hid (numO ((ws.drop 1).headD []) 64 = o0) := HO0
        clear hem
        have HBX : Hid (bdf = (o0.isNone || o1.isNone)) := by
          have q1 := HBD1.out
          have q2 := HB2.out
          have qf := HBF.out
          show _ = _
          rw [← qf, ← q2, q1]
        clear HBF
        cases bdf with
        | true =>
          skip
          have hb0 : ((o0.isNone || o1.isNone)) = true := HBX.out.symm
          go_wp2_with (first
            | refine wpList_storeE hs1 _ _ rfl rfl rfl rfl ?_
            | (go_at_call 39; refine HRT.out.mono ?_; rintro e w' ⟨rfl, hw'⟩; rw [hw']; clear hw'))
          rw [HR.out]
          refine ⟨HAF.out.be, ?_⟩
          have hno : actsO (splitW l) = none := by
            rw [HWS.out, HAC.out, HOX.out, (show numO ((ws.drop 2).headD []) evN = _ from HO1.out)]
            cases o0 <;> cases o1 <;> first | rfl | (exact absurd hb0 (by simp))
          rw [hno]
          rfl
        | false =>
          have hb0 : ((o0.isNone || o1.isNone)) = false := HBX.out.symm
          obtain ⟨u0, rfl⟩ : ∃ u, o0 = some u := by
            cases o0 with
            | none => exact absurd hb0 (by simp)
            | some u => exact ⟨u, rfl⟩
          obtain ⟨u1, rfl⟩ : ∃ u, o1 = some u := by
            cases o1 with
            | none => exact absurd hb0 (by simp)
            | some u => exact ⟨u, rfl⟩
          have e0 := HZ0.out u0 rfl
          subst e0
          have e1 := HU1.out u1 rfl
          subst e1
          cases em with
          | false =>
            go_wp2_with (first
              | refine wpList_storeE hs1 _ _ rfl rfl rfl rfl ?_
              | (go_at_call 39; refine HRT.out.mono ?_; rintro e w' ⟨rfl, hw'⟩; rw [hw']; clear hw'))
            rw [HR.out]
            refine ⟨HAF.out.be, ?_⟩
            have hno : actsO (splitW l) = none := by
              rw [HWS.out, HAC.out, HOX.out, (show numO ((ws.drop 2).headD []) evN = _ from HO1.out)]
              have hem := HEM.out
              dsimp only
              rw [if_neg (fun q => by rw [q] at hem; cases hem)]
            rw [hno]
            rfl

          | true =>
            have hem : ws.drop 3 = [] := by simpa using HEM.out
            have LD : (Instr.loadAt 40 (.pointer (some ⟨p, 0, none⟩))).run Tryd.prog X1 = .ok (.agg #[.int .i64 u0, .int .i64 3, .int .u64 n1, .slice none 0 0, .int .u64 0, .int .i64 0, .int .i64 0, .int .u64 0]) X1 := actA_blk HAF.out.bl rfl
            have HRP := Lib.hid (sl_repeat X1.heap.size 1 #[.int .i64 u0, .int .i64 3, .int .u64 n1, .slice none 0 0, .int .u64 0, .int .i64 0, .int .i64 0, .int .u64 0] rfl (fun v hv => by
              simp only [List.mem_cons, List.not_mem_nil, or_false] at hv
              rcases hv with rfl | rfl | rfl | rfl | rfl | rfl | rfl | rfl <;> rfl) (by omega) (by omega) (X1.alloc (.cells #[.int .i64 u0, .int .i64 3, .int .u64 n1, .slice none 0 0, .int .u64 0, .int .i64 0, .int .i64 0, .int .u64 0] 40)) (Blk.new _ _ _))
            go_wp2_with (first
              | refine wpList_storeE hs1 _ _ rfl rfl rfl rfl ?_
              | (go_at_call 39; refine HRT.out.mono ?_; rintro e w' ⟨rfl, hw'⟩; rw [hw']; clear hw')
              | refine wpList_loadE LD _ rfl rfl rfl ?_
              | refine wpList_valR rfl (exec_buildA rfl (by first | kernel_rfl | simp [Act.eval]) (run_act1 _ #[.int .i64 u0, .int .i64 3, .int .u64 n1, .slice none 0 0, .int .u64 0, .int .i64 0, .int .i64 0, .int .u64 0] rfl)) ?_
              | (go_at_call 41; refine HRP.out.mono ?_))
            rintro e w9 ⟨rfl, hb9, hbel9⟩
            have HB9 := Lib.hid hb9
            have HBE9 := Lib.hid hbel9
            clear hb9 hbel9 LD
            go_wp2
            rw [HR.out]
            have hbx := bel_boxX X1 (.cells #[.int .i64 u0, .int .i64 3, .int .u64 n1, .slice none 0 0, .int .u64 0, .int .i64 0, .int .i64 0, .int .u64 0] 40)
            have hall : Below X1.heap.size X1 w9 := hbx.trans (HBE9.out.mono hbx.size)
            refine ⟨HAF.out.be.trans (hall.mono HAF.out.be.size), ?_⟩
            have hac : actsO (splitW l) = some (⟨(u0 : Int), 3, n1, [], 0, 0, 0, 0⟩, 1) := by
              rw [HWS.out, HAC.out, HOX.out, (show numO ((ws.drop 2).headD []) evN = _ from HO1.out)]
              dsimp only
              rw [if_pos hem]
              try rfl
            rw [hac]
            have hb9 := HB9.out
            have hsz := hbx.size
            rw [alloc_sizeX] at hb9 hsz
            exact ⟨_, none, 0, 0, rfl, Nat.le_trans HAF.out.be.size hsz, hb9, ⟨own_keepS HVT.out.1 hall, HVT.out.2⟩⟩
      · have c1 : wr.cell? ⟨p, 1, none⟩ = some (.int .i64 5) := HA.out.bl.cell 1
        have hA0 := HA.out
        have hE0 := HEN.out
        have HVT : Hid (VecT wr none 0 0 []) := VecT.nil_ _
        obtain ⟨bdf, hbdf⟩ : ∃ x, bd1 = x := ⟨_, rfl⟩
        have hAf := hA0
        rw [hbdf] at hAf
        have HRT := Lib.hid (tk_right (w.heap.size + 1) (ws.drop 2) bdf wr hAf.tk)
        have HAF := Lib.hid hAf
        have HBF := Lib.hid hbdf
        clear hAf hbdf  hA0 hE0
        have HKW : Hid (kindN (ws.headD []) = 5) := by show _ = _; rw [HWD.out]; exact HKN.out
        obtain ⟨em, hem⟩ : ∃ x, (ws.drop 2).isEmpty = x := ⟨_, rfl⟩
        rw [hem] at HRT
        have HEM := Lib.hid hem
        have HAC := Lib.hid (actsO_5 (ws := ws) HKW.out (by decide))
        have HOX : Hid (numO ((ws.drop 1).headD []) 64 = o0) := HO0
        clear hem
        have HBX : Hid (bdf = o0.isNone) := by
          have q1 := HBD1.out
          have qf := HBF.out
          show _ = _
          rw [← qf, q1]
        clear HBF
        cases bdf with
        | true =>
          skip
          have hb0 : (o0.isNone) = true := HBX.out.symm
          go_wp2_with (first
            | (go_at_call 39; refine HRT.out.mono ?_; rintro e w' ⟨rfl, hw'⟩; rw [hw']; clear hw'))
          rw [HR.out]
          refine ⟨HAF.out.be, ?_⟩
          have hno : actsO (splitW l) = none := by
            rw [HWS.out, HAC.out, HOX.out]
            cases o0 <;> first | rfl | (exact absurd hb0 (by simp))
          rw [hno]
          rfl
        | false =>
          have hb0 : (o0.isNone) = false := HBX.out.symm
          obtain ⟨u0, rfl⟩ : ∃ u, o0 = some u := by
            cases o0 with
            | none => exact absurd hb0 (by simp)
            | some u => exact ⟨u, rfl⟩
          have e0 := HZ0.out u0 rfl
          subst e0
          cases em with
          | false =>
            go_wp2_with (first
              | (go_at_call 39; refine HRT.out.mono ?_; rintro e w' ⟨rfl, hw'⟩; rw [hw']; clear hw'))
            rw [HR.out]
            refine ⟨HAF.out.be, ?_⟩
            have hno : actsO (splitW l) = none := by
              rw [HWS.out, HAC.out, HOX.out]
              have hem := HEM.out
              dsimp only
              rw [if_neg (fun q => by rw [q] at hem; cases hem)]
            rw [hno]
            rfl

          | true =>
            have hem : ws.drop 2 = [] := by simpa using HEM.out
            have LD : (Instr.loadAt 40 (.pointer (some ⟨p, 0, none⟩))).run Tryd.prog wr = .ok (.agg #[.int .i64 u0, .int .i64 5, .int .u64 0, .slice none 0 0, .int .u64 0, .int .i64 0, .int .i64 0, .int .u64 0]) wr := actA_blk HAF.out.bl rfl
            have HRP := Lib.hid (sl_repeat wr.heap.size 1 #[.int .i64 u0, .int .i64 5, .int .u64 0, .slice none 0 0, .int .u64 0, .int .i64 0, .int .i64 0, .int .u64 0] rfl (fun v hv => by
              simp only [List.mem_cons, List.not_mem_nil, or_false] at hv
              rcases hv with rfl | rfl | rfl | rfl | rfl | rfl | rfl | rfl <;> rfl) (by omega) (by omega) (wr.alloc (.cells #[.int .i64 u0, .int .i64 5, .int .u64 0, .slice none 0 0, .int .u64 0, .int .i64 0, .int .i64 0, .int .u64 0] 40)) (Blk.new _ _ _))
            go_wp2_with (first
              | (go_at_call 39; refine HRT.out.mono ?_; rintro e w' ⟨rfl, hw'⟩; rw [hw']; clear hw')
              | refine wpList_loadE LD _ rfl rfl rfl ?_
              | refine wpList_valR rfl (exec_buildA rfl (by first | kernel_rfl | simp [Act.eval]) (run_act1 _ #[.int .i64 u0, .int .i64 5, .int .u64 0, .slice none 0 0, .int .u64 0, .int .i64 0, .int .i64 0, .int .u64 0] rfl)) ?_
              | (go_at_call 41; refine HRP.out.mono ?_))
            rintro e w9 ⟨rfl, hb9, hbel9⟩
            have HB9 := Lib.hid hb9
            have HBE9 := Lib.hid hbel9
            clear hb9 hbel9 LD
            go_wp2
            rw [HR.out]
            have hbx := bel_boxX wr (.cells #[.int .i64 u0, .int .i64 5, .int .u64 0, .slice none 0 0, .int .u64 0, .int .i64 0, .int .i64 0, .int .u64 0] 40)
            have hall : Below wr.heap.size wr w9 := hbx.trans (HBE9.out.mono hbx.size)
            refine ⟨HAF.out.be.trans (hall.mono HAF.out.be.size), ?_⟩
            have hac : actsO (splitW l) = some (⟨(u0 : Int), 5, 0, [], 0, 0, 0, 0⟩, 1) := by
              rw [HWS.out, HAC.out, HOX.out]
              dsimp only
              rw [if_pos hem]
              try rfl
            rw [hac]
            have hb9 := HB9.out
            have hsz := hbx.size
            rw [alloc_sizeX] at hb9 hsz
            exact ⟨_, none, 0, 0, rfl, Nat.le_trans HAF.out.be.size hsz, hb9, ⟨own_keepS HVT.out.1 hall, HVT.out.2⟩⟩
      · have c1 : wr.cell? ⟨p, 1, none⟩ = some (.int .i64 6) := HA.out.bl.cell 1
        have hA0 := HA.out
        have hE0 := HEN.out
        have HVT : Hid (VecT wr none 0 0 []) := VecT.nil_ _
        obtain ⟨bdf, hbdf⟩ : ∃ x, bd1 = x := ⟨_, rfl⟩
        have hAf := hA0
        rw [hbdf] at hAf
        have HRT := Lib.hid (tk_right (w.heap.size + 1) (ws.drop 2) bdf wr hAf.tk)
        have HAF := Lib.hid hAf
        have HBF := Lib.hid hbdf
        clear hAf hbdf  hA0 hE0
        have HKW : Hid (kindN (ws.headD []) = 6) := by show _ = _; rw [HWD.out]; exact HKN.out
        obtain ⟨em, hem⟩ : ∃ x, (ws.drop 2).isEmpty = x := ⟨_, rfl⟩
        rw [hem] at HRT
        have HEM := Lib.hid hem
        have HAC := Lib.hid (actsO_5 (ws := ws) HKW.out (by decide))
        have HOX : Hid (numO ((ws.drop 1).headD []) 64 = o0) := HO0
        clear hem
        have HBX : Hid (bdf = o0.isNone) := by
          have q1 := HBD1.out
          have qf := HBF.out
          show _ = _
          rw [← qf, q1]
        clear HBF
        cases bdf with
        | true =>
          skip
          have hb0 : (o0.isNone) = true := HBX.out.symm
          go_wp2_with (first
            | (go_at_call 39; refine HRT.out.mono ?_; rintro e w' ⟨rfl, hw'⟩; rw [hw']; clear hw'))
          rw [HR.out]
          refine ⟨HAF.out.be, ?_⟩
          have hno : actsO (splitW l) = none := by
            rw [HWS.out, HAC.out, HOX.out]
            cases o0 <;> first | rfl | (exact absurd hb0 (by simp))
          rw [hno]
          rfl
        | false =>
          have hb0 : (o0.isNone) = false := HBX.out.symm
          obtain ⟨u0, rfl⟩ : ∃ u, o0 = some u := by
            cases o0 with
            | none => exact absurd hb0 (by simp)
            | some u => exact ⟨u, rfl⟩
          have e0 := HZ0.out u0 rfl
          subst e0
          cases em with
          | false =>
            go_wp2_with (first
              | (go_at_call 39; refine HRT.out.mono ?_; rintro e w' ⟨rfl, hw'⟩; rw [hw']; clear hw'))
            rw [HR.out]
            refine ⟨HAF.out.be, ?_⟩
            have hno : actsO (splitW l) = none := by
              rw [HWS.out, HAC.out, HOX.out]
              have hem := HEM.out
              dsimp only
              rw [if_neg (fun q => by rw [q] at hem; cases hem)]
            rw [hno]
            rfl

          | true =>
            have hem : ws.drop 2 = [] := by simpa using HEM.out
            have LD : (Instr.loadAt 40 (.pointer (some ⟨p, 0, none⟩))).run Tryd.prog wr = .ok (.agg #[.int .i64 u0, .int .i64 6, .int .u64 0, .slice none 0 0, .int .u64 0, .int .i64 0, .int .i64 0, .int .u64 0]) wr := actA_blk HAF.out.bl rfl
            have HRP := Lib.hid (sl_repeat wr.heap.size 1 #[.int .i64 u0, .int .i64 6, .int .u64 0, .slice none 0 0, .int .u64 0, .int .i64 0, .int .i64 0, .int .u64 0] rfl (fun v hv => by
              simp only [List.mem_cons, List.not_mem_nil, or_false] at hv
              rcases hv with rfl | rfl | rfl | rfl | rfl | rfl | rfl | rfl <;> rfl) (by omega) (by omega) (wr.alloc (.cells #[.int .i64 u0, .int .i64 6, .int .u64 0, .slice none 0 0, .int .u64 0, .int .i64 0, .int .i64 0, .int .u64 0] 40)) (Blk.new _ _ _))
            go_wp2_with (first
              | (go_at_call 39; refine HRT.out.mono ?_; rintro e w' ⟨rfl, hw'⟩; rw [hw']; clear hw')
              | refine wpList_loadE LD _ rfl rfl rfl ?_
              | refine wpList_valR rfl (exec_buildA rfl (by first | kernel_rfl | simp [Act.eval]) (run_act1 _ #[.int .i64 u0, .int .i64 6, .int .u64 0, .slice none 0 0, .int .u64 0, .int .i64 0, .int .i64 0, .int .u64 0] rfl)) ?_
              | (go_at_call 41; refine HRP.out.mono ?_))
            rintro e w9 ⟨rfl, hb9, hbel9⟩
            have HB9 := Lib.hid hb9
            have HBE9 := Lib.hid hbel9
            clear hb9 hbel9 LD
            go_wp2
            rw [HR.out]
            have hbx := bel_boxX wr (.cells #[.int .i64 u0, .int .i64 6, .int .u64 0, .slice none 0 0, .int .u64 0, .int .i64 0, .int .i64 0, .int .u64 0] 40)
            have hall : Below wr.heap.size wr w9 := hbx.trans (HBE9.out.mono hbx.size)
            refine ⟨HAF.out.be.trans (hall.mono HAF.out.be.size), ?_⟩
            have hac : actsO (splitW l) = some (⟨(u0 : Int), 6, 0, [], 0, 0, 0, 0⟩, 1) := by
              rw [HWS.out, HAC.out, HOX.out]
              dsimp only
              rw [if_pos hem]
              try rfl
            rw [hac]
            have hb9 := HB9.out
            have hsz := hbx.size
            rw [alloc_sizeX] at hb9 hsz
            exact ⟨_, none, 0, 0, rfl, Nat.le_trans HAF.out.be.size hsz, hb9, ⟨own_keepS HVT.out.1 hall, HVT.out.2⟩⟩
      · have c1 : wr.cell? ⟨p, 1, none⟩ = some (.int .i64 0) := HA.out.bl.cell 1
        have hA0 := HA.out
        have hE0 := HEN.out
        have HNA := Lib.hid (tk_num (w.heap.size + 1) (ws.drop 2) bd1 4096 (HHD.out 2) wr hE0 hA0.tk)
        have HA0' := Lib.hid hA0
        clear hA0 hE0
        go_wp2_with (go_at_call 38; refine HNA.out.mono ?_)
        rintro e W1 ⟨n1, rfl, hn1, hu1, ht1, hg1⟩
        obtain ⟨o1, ho1⟩ : ∃ o, numO ((ws.drop 2).headD []) 4096 = o := ⟨_, rfl⟩
        rw [ho1] at hu1 ht1
        obtain ⟨bd2, hbd2⟩ : ∃ x, (bd1 || o1.isNone) = x := ⟨_, rfl⟩
        rw [hbd2, List.tail_drop] at ht1
        have hA1 := HA0'.out.num ht1 hg1
        have hE1 := hA1.env HE.out
        have HU1 := Lib.hid hu1
        have HO1 := Lib.hid ho1
        have HB2 := Lib.hid hbd2
        clear c1
        clear hu1 ho1 hbd2 ht1 hg1 hn1 HNA HA0'
        obtain ⟨z1, hz1, hzz1⟩ := convA (n := n1)
        have HZ1 : Hid (∀ u, o1 = some u → z1 = (u : Int)) := fun u hu => by
          have h1 := HU1.out u hu
          rw [← h1] at hu
          have h2 := (numO_some (HO1.out.trans hu)).1
          rw [hzz1 (by omega), h1]
        clear hzz1
        have c1 : W1.cell? ⟨(w.heap.size + 1), 1, none⟩ = some (.bool bd2) := hA1.tk.cell1
        obtain ⟨we, hwe⟩ : ∃ x, decide (word = pickW) = x := ⟨_, rfl⟩
        have hcmp : (word == [112, 105, 99, 107]) = we := by rw [← hwe]; exact beq_dec word
        obtain ⟨bdf, hbdf⟩ : ∃ x, (bd2 || !we) = x := ⟨_, rfl⟩
        obtain ⟨Wx, hst, htx, hgx⟩ := stA_bool hA1.tk bdf
        have hAx : AcS w Wx (w.heap.size + 1) p (ws.drop 3) bdf #[.int .i64 z0, .int .i64 0, .int .u64 0, .slice none 0 0, .int .u64 0, .int .i64 0, .int .i64 0, .int .u64 0] := hA1.num htx hgx
        have HRT := Lib.hid (tk_right (w.heap.size + 1) (ws.drop 3) bdf Wx hAx.tk)
        have HAF := Lib.hid hAx
        have HBF := Lib.hid hbdf
        have HWE := Lib.hid hwe
        have HVT : Hid (VecT Wx none 0 0 []) := VecT.nil_ _
        clear hAx hwe hA1 hE1 htx hgx
        have HKW : Hid (kindN (ws.headD []) = 0) := by show _ = _; rw [HWD.out]; exact HKN.out
        obtain ⟨em, hem⟩ : ∃ x, (ws.drop 3).isEmpty = x := ⟨_, rfl⟩
        rw [hem] at HRT
        have HEM := Lib.hid hem
        have HAC := Lib.hid (actsO_0 (ws := ws) HKW.out)
        have HOX : Hid (numO ((ws.drop 1).headD []) 64 = o0) := HO0
        clear hem
        have HBX : Hid (bdf = ((o0.isNone || o1.isNone) || !we)) := by
          have q1 := HBD1.out
          have q2 := HB2.out
          have qf := HBF.out
          show _ = _
          rw [← qf, ← q2, q1]
        clear HBF
        cases bdf with
        | true =>
          skip
          have hb0 : (((o0.isNone || o1.isNone) || !we)) = true := HBX.out.symm
          cases we with
          | true =>
            cases bd2 with
            | true =>
              go_wp2_with (first
                | refine wpList_storeE hst _ _ rfl rfl rfl rfl ?_
                | (go_at_call 39; refine HRT.out.mono ?_; rintro e w' ⟨rfl, hw'⟩; rw [hw']; clear hw'))
              rw [HR.out]
              refine ⟨HAF.out.be, ?_⟩
              have hno : actsO (splitW l) = none := by
                rw [HWS.out, HAC.out, HOX.out, (show numO ((ws.drop 2).headD []) 4096 = _ from HO1.out)]
                cases o0 with
                | none => rfl
                | some u0 =>
                  cases o1 with
                  | none => rfl
                  | some u1 =>
                    have hw : (true : Bool) = false := by simp at hb0
                    have hnp : ¬ word = pickW := by have h1 := HWE.out; rw [hw] at h1; exact of_decide_eq_false h1
                    dsimp only
                    rw [HWD.out, if_neg (fun q => hnp q.2.1)]
              rw [hno]
              rfl

            | false => exact absurd hbdf (by decide)
          | false =>
            cases bd2 with
            | true =>
              go_wp2_with (first
                | refine wpList_storeE hst _ _ rfl rfl rfl rfl ?_
                | (go_at_call 39; refine HRT.out.mono ?_; rintro e w' ⟨rfl, hw'⟩; rw [hw']; clear hw'))
              rw [HR.out]
              refine ⟨HAF.out.be, ?_⟩
              have hno : actsO (splitW l) = none := by
                rw [HWS.out, HAC.out, HOX.out, (show numO ((ws.drop 2).headD []) 4096 = _ from HO1.out)]
                cases o0 with
                | none => rfl
                | some u0 =>
                  cases o1 with
                  | none => rfl
                  | some u1 =>
                    have hw : (false : Bool) = false := rfl
                    have hnp : ¬ word = pickW := by have h1 := HWE.out; rw [hw] at h1; exact of_decide_eq_false h1
                    dsimp only
                    rw [HWD.out, if_neg (fun q => hnp q.2.1)]
              rw [hno]
              rfl

            | false =>
              go_wp2_with (first
                | refine wpList_storeE hst _ _ rfl rfl rfl rfl ?_
                | (go_at_call 39; refine HRT.out.mono ?_; rintro e w' ⟨rfl, hw'⟩; rw [hw']; clear hw'))
              rw [HR.out]
              refine ⟨HAF.out.be, ?_⟩
              have hno : actsO (splitW l) = none := by
                rw [HWS.out, HAC.out, HOX.out, (show numO ((ws.drop 2).headD []) 4096 = _ from HO1.out)]
                cases o0 with
                | none => rfl
                | some u0 =>
                  cases o1 with
                  | none => rfl
                  | some u1 =>
                    have hw : (false : Bool) = false := rfl
                    have hnp : ¬ word = pickW := by have h1 := HWE.out; rw [hw] at h1; exact of_decide_eq_false h1
                    dsimp only
                    rw [HWD.out, if_neg (fun q => hnp q.2.1)]
              rw [hno]
              rfl

        | false =>
          have hb0 : (((o0.isNone || o1.isNone) || !we)) = false := HBX.out.symm
          obtain ⟨u0, rfl⟩ : ∃ u, o0 = some u := by
            cases o0 with
            | none => exact absurd hb0 (by simp)
            | some u => exact ⟨u, rfl⟩
          obtain ⟨u1, rfl⟩ : ∃ u, o1 = some u := by
            cases o1 with
            | none => exact absurd hb0 (by simp)
            | some u => exact ⟨u, rfl⟩
          have e0 := HZ0.out u0 rfl
          subst e0
          have e1 := HZ1.out u1 rfl
          subst e1
          have hw : we = true := by
            cases we with
            | true => rfl
            | false => exact absurd hb0 (by simp)
          subst hw
          have hbd2 : bd2 = false := by
            cases q : bd2 with
            | false => rfl
            | true => rw [q] at hbdf; exact absurd hbdf (by simp)
          subst hbd2
          have hpk : word = pickW := of_decide_eq_true HWE.out
          have hu14 := (numO_some HO1.out).1
          cases em with
          | false =>
            go_wp2_with (first
              | refine wpList_storeE hst _ _ rfl rfl rfl rfl ?_
              | (go_at_call 39; refine HRT.out.mono ?_; rintro e w' ⟨rfl, hw'⟩; rw [hw']; clear hw'))
            rw [HR.out]
            refine ⟨HAF.out.be, ?_⟩
            have hno : actsO (splitW l) = none := by
              rw [HWS.out, HAC.out, HOX.out, (show numO ((ws.drop 2).headD []) 4096 = _ from HO1.out)]
              have hem := HEM.out
              dsimp only
              rw [if_neg (fun q => by rw [q.1] at hem; cases hem)]
            rw [hno]
            rfl

          | true =>
            have hem : ws.drop 3 = [] := by simpa using HEM.out
            by_cases hu1 : 1 ≤ u1
            · have hlt1 : decide (((u1 : Nat) : Int) < 1) = false := decide_eq_false (by omega)
              have LD : (Instr.loadAt 40 (.pointer (some ⟨p, 0, none⟩))).run Tryd.prog Wx = .ok (.agg #[.int .i64 u0, .int .i64 0, .int .u64 0, .slice none 0 0, .int .u64 0, .int .i64 0, .int .i64 0, .int .u64 0]) Wx := actA_blk HAF.out.bl rfl
              have HRP := Lib.hid (sl_repeat Wx.heap.size u1 #[.int .i64 u0, .int .i64 0, .int .u64 0, .slice none 0 0, .int .u64 0, .int .i64 0, .int .i64 0, .int .u64 0] rfl (fun v hv => by
                simp only [List.mem_cons, List.not_mem_nil, or_false] at hv
                rcases hv with rfl | rfl | rfl | rfl | rfl | rfl | rfl | rfl <;> rfl) hu1 hu14 (Wx.alloc (.cells #[.int .i64 u0, .int .i64 0, .int .u64 0, .slice none 0 0, .int .u64 0, .int .i64 0, .int .i64 0, .int .u64 0] 40)) (Blk.new _ _ _))
              go_wp2_with (first
                | refine wpList_storeE hst _ _ rfl rfl rfl rfl ?_
                | (go_at_call 39; refine HRT.out.mono ?_; rintro e w' ⟨rfl, hw'⟩; rw [hw']; clear hw')
                | refine wpList_loadE LD _ rfl rfl rfl ?_
                | refine wpList_valR rfl (exec_buildA rfl (by first | kernel_rfl | simp [Act.eval]) (run_act1 _ #[.int .i64 u0, .int .i64 0, .int .u64 0, .slice none 0 0, .int .u64 0, .int .i64 0, .int .i64 0, .int .u64 0] rfl)) ?_
                | (go_at_call 41; refine HRP.out.mono ?_))
              rintro e w9 ⟨rfl, hb9, hbel9⟩
              have HB9 := Lib.hid hb9
              have HBE9 := Lib.hid hbel9
              clear hb9 hbel9 LD
              go_wp2
              rw [HR.out]
              have hbx := bel_boxX Wx (.cells #[.int .i64 u0, .int .i64 0, .int .u64 0, .slice none 0 0, .int .u64 0, .int .i64 0, .int .i64 0, .int .u64 0] 40)
              have hall : Below Wx.heap.size Wx w9 := hbx.trans (HBE9.out.mono hbx.size)
              refine ⟨HAF.out.be.trans (hall.mono HAF.out.be.size), ?_⟩
              have hac : actsO (splitW l) = some (⟨(u0 : Int), 0, 0, [], 0, 0, 0, 0⟩, u1) := by
                rw [HWS.out, HAC.out, HOX.out, (show numO ((ws.drop 2).headD []) 4096 = _ from HO1.out)]
                dsimp only
                rw [HWD.out, if_pos ⟨hem, hpk, hu1⟩]
                try rfl
              rw [hac]
              have hb9 := HB9.out
              have hsz := hbx.size
              rw [alloc_sizeX] at hb9 hsz
              exact ⟨_, none, 0, 0, rfl, Nat.le_trans HAF.out.be.size hsz, hb9, ⟨own_keepS HVT.out.1 hall, HVT.out.2⟩⟩

            · have hlt1 : decide (((u1 : Nat) : Int) < 1) = true := decide_eq_true (by omega)
              go_wp2_with (first
                | refine wpList_storeE hst _ _ rfl rfl rfl rfl ?_
                | (go_at_call 39; refine HRT.out.mono ?_; rintro e w' ⟨rfl, hw'⟩; rw [hw']; clear hw'))
              rw [HR.out]
              refine ⟨HAF.out.be, ?_⟩
              have hno : actsO (splitW l) = none := by
                rw [HWS.out, HAC.out, HOX.out, (show numO ((ws.drop 2).headD []) 4096 = _ from HO1.out)]
                dsimp only
                rw [if_neg (fun q => hu1 q.2.2)]
              rw [hno]
              rfl

end Go.Proofs.YtillmlaoppibfaaDoor
