/- Scripts: a whole text, read. (Printed by tools/genScJ.py.) -/
import Derived.Test.YtillmlaoppibfaaDoorScI
namespace Go.Proofs.YtillmlaoppibfaaDoor
open Go.RowKit Go.Sort
/-- Lines' acts, one by one. -/
def expand (gs : List (SAct × Nat)) : List SAct := (gs.map fun g => List.replicate g.2 g.1).flatten
theorem expand_snoc (gs : List (SAct × Nat)) (g : SAct × Nat) : expand (gs ++ [g]) = expand gs ++ List.replicate g.2 g.1 := by unfold expand; simp
/-- Lines behind the first one, read: the number of the line that is not right, and why; or the acts. -/
def prsL : Nat → Int → Nat → Nat → List UInt8 → (Nat × Int) ⊕ List (SAct × Nat)
  | 0, _, _, no, _ => .inl (no, 12)
  | f + 1, pk, cnt, no, s =>
    if s = [] then .inr []
    else if (Lib.cut s [10]).2.2 = false then .inl (no, 12)
    else match actsO (splitW (Lib.cut s [10]).1) with
      | none => .inl (no, 12)
      | some g =>
        if 0 ≤ pkOf g.1 ∧ pkOf g.1 = pk then .inl (no, 11)
        else if 4096 < cnt + g.2 then .inl (no, 9)
        else match prsL f (pkOf g.1) (cnt + g.2) (no + 1) (Lib.cut s [10]).2.1 with
          | .inl e => .inl e
          | .inr gs => .inr (g :: gs)
def joinR (c : SCfg) (gs : List (SAct × Nat)) : (Nat × Int) ⊕ List (SAct × Nat) → (Nat × Int) ⊕ (SCfg × List (SAct × Nat))
  | .inl e => .inl e
  | .inr g' => .inr (c, gs ++ g')
/-- A text, read. -/
def prsO (s : List UInt8) : (Nat × Int) ⊕ (SCfg × List (SAct × Nat)) :=
  if 65536 < s.length then .inl (0, 9)
  else if (Lib.cut s [10]).2.2 = false then .inl (1, 12)
  else match cfgO (splitW (Lib.cut s [10]).1) with
    | none => .inl (1, 12)
    | some c => if chkB c = true then joinR c [] (prsL s.length (-1) 0 2 (Lib.cut s [10]).2.1) else .inl (1, 1)
theorem idx_parts (c : UInt8) : ∀ (s : List UInt8) (i : Nat), Lib.index s [c] = i → s = s.take i ++ c :: s.drop (i + 1)
  | [], i, h => by
    have : Lib.index ([] : List UInt8) [c] = -1 := rfl
    rw [this] at h
    omega
  | b :: s, i, h => by
    unfold Lib.index at h
    split at h
    · rename_i hp
      have hb : c = b := by simpa [List.isPrefixOf] using hp
      have : i = 0 := by omega
      subst this
      subst hb
      rfl
    · split at h
      · omega
      · have hge := Lib.index_ge s [c]
        rename_i hn
        have hn' : Lib.index s [c] ≠ -1 := fun e => hn (by rw [e]; rfl)
        obtain ⟨j, rfl⟩ : ∃ j, i = j + 1 := ⟨i - 1, by omega⟩
        have ih := idx_parts c s j (by omega)
        rw [List.take_succ_cons, List.drop_succ_cons, List.cons_append, ← ih]
/-- A line, cut off. -/
theorem cut_parts {s : List UInt8} (h : (Lib.cut s [10]).2.2 = true) : s = (Lib.cut s [10]).1 ++ 10 :: (Lib.cut s [10]).2.1 := by
  unfold Lib.cut at h ⊢
  split at h
  · rename_i hi
    rw [if_pos hi]
    have := idx_parts 10 s (Lib.index s [10]).toNat (by omega)
    exact this
  · cases h
theorem cut_less {s : List UInt8} (h : (Lib.cut s [10]).2.2 = true) : (Lib.cut s [10]).1.length ≤ s.length ∧ (Lib.cut s [10]).2.1.length < s.length := by
  have e := congrArg List.length (cut_parts h)
  rw [List.length_append, List.length_cons] at e
  omega
theorem joinR_cons (c : SCfg) (gs : List (SAct × Nat)) (g : SAct × Nat) (x : (Nat × Int) ⊕ List (SAct × Nat)) : joinR c gs (match x with | .inl e => .inl e | .inr g' => .inr (g :: g')) = joinR c (gs ++ [g]) x := by
  cases x with
  | inl e => rfl
  | inr g' => simp [joinR]
def lenS : Value → Nat
  | .string s => s.size
  | _ => 0
theorem results_row13 {P : Program} {fn : Func} {p u v x : Tmp} {t1 : TypeId} (h : fn.results = #[.cell p t1, .tmp u, .tmp v, .tmp x]) (tmps : Array Value) {w : World} {g1 : Nat} {c1 : Array Value} {d1 : TypeDesc}
    (hp : tmps.getD p undef = .pointer (some ⟨g1, 0, none⟩)) {u1 : Nat} (b1 : Blk w g1 u1 c1)
    (hu1 : P.underlying t1 = some d1) (hd1 : (match d1 with | .struct _ | .array _ _ => true | _ => false) = true) (hi1 : (P.info? t1).map (·.size) = some c1.size) :
    (results fn tmps).run P w = .ok (.tuple #[.agg c1, tmps.getD u undef, tmps.getD v undef, tmps.getD x undef]) w := by
  have hp' : tmps[p]?.getD undef = .pointer (some ⟨g1, 0, none⟩) := by simpa using hp
  simp [results, h, hp', asAddr, run_loadVar_row w g1 u1 t1 c1 (0, 0) d1 b1 hu1 hd1 hi1, Result.andThen]
def cfg0 : SCfg := ⟨0, 0, 0, 0, 0⟩
theorem loadJ_cfg {W : World} {g : Nat} {v0 v1 v2 v3 v4 v5 v6 : Value} (h : Blk W g 56 #[v0, v1, v2, v3, v4, v5, v6]) : (Instr.loadAt 23 (.pointer (some ⟨g, 0, none⟩))).run Tryd.prog W = .ok (.agg #[v0, v1, v2, v3, v4]) W :=
  row_load_mid h 0 #[v0, v1, v2, v3, v4] rfl Tryd.underlying23 rfl (by kernel_rfl)
theorem loadJ_acts {W : World} {g o : Nat} {A : Option Addr} {n c : Nat} (h : W.cell? ⟨g, o, none⟩ = some (.slice A n c)) : (Instr.loadAt 24 (.pointer (some ⟨g, o, none⟩))).run Tryd.prog W = .ok (.slice A n c) W := by
  simp [go_sem, h]
/-- What Parse answers. -/
def ParR (s : List UInt8) (w : World) (e : Ending) (w' : World) : Prop :=
  Below w.heap.size w w' ∧ match prsO s with
    | .inl (no, why) => e = .returned (.tuple #[cfg0.v, .slice none 0 0, .int .i64 (no : Nat), .int .i64 why])
    | .inr (c, gs) => ∃ v, e = .returned (.tuple #[c.v, v, .int .i64 0, .int .i64 0]) ∧ PaS w' w.heap.size v (expand gs)
/-- Between the lines. -/
def LoopJ (s : List UInt8) (w wr : World) (t : List UInt8) (no : Nat) : Prop :=
  Below w.heap.size w wr ∧ Blk wr w.heap.size 23 #[.int .i64 0, .int .i64 0, .int .i64 0, .int .i64 0, .int .i64 0] ∧
    ((no = 1 ∧ t = s ∧ RdR wr (w.heap.size + 1) (w.heap.size + 1) cfg0 (.slice none 0 0) (-1) []) ∨
      (2 ≤ no ∧ ∃ c gs v pk f, RdR wr (w.heap.size + 1) (w.heap.size + 1) c v pk (expand gs) ∧ (expand gs).length ≤ 4096 ∧ t.length < f ∧ prsO s = joinR c gs (prsL f pk (expand gs).length no t)))
theorem LoopJ.lt {s : List UInt8} {w wr : World} {t : List UInt8} {no : Nat} (h : LoopJ s w wr t no) : w.heap.size + 1 < wr.heap.size := by
  obtain ⟨_, _, h | ⟨_, c, gs, v, pk, f, h, _⟩⟩ := h
  · exact h.2.2.bl.lt
  · exact h.bl.lt
theorem LoopJ.below {s : List UInt8} {w wr W : World} {t : List UInt8} {no : Nat} (h : LoopJ s w wr t no) (hb : Below wr.heap.size wr W) : LoopJ s w W t no := by
  obtain ⟨h1, h2, h3⟩ := h
  refine ⟨h1.trans (hb.mono h1.size), h2.below hb h2.lt, ?_⟩
  rcases h3 with ⟨a, b, c⟩ | ⟨a, c, gs, v, pk, f, h, r⟩
  · exact .inl ⟨a, b, c.below hb⟩
  · exact .inr ⟨a, c, gs, v, pk, f, h.below hb, r⟩
theorem LoopJ.short {s : List UInt8} {w wr : World} {t : List UInt8} {no : Nat} (h : LoopJ s w wr t no) (hs : s.length ≤ 65536) (hc : no = 1 ∨ t ≠ []) (he : (Lib.cut t [10]).2.2 = false) : prsO s = .inl (no, 12) := by
  obtain ⟨_, _, h | ⟨h2, c, gs, v, pk, f, _, _, hf, hp⟩⟩ := h
  · obtain ⟨rfl, rfl, _⟩ := h
    unfold prsO
    rw [if_neg (by omega), if_pos he]
  · have ht : t ≠ [] := by rcases hc with q | q; omega; exact q
    obtain ⟨f', rfl⟩ : ∃ f', f = f' + 1 := ⟨f - 1, by omega⟩
    rw [hp, prsL, if_neg ht, if_pos he]
    rfl
theorem LoopJ.exit {s : List UInt8} {w wr : World} {no : Nat} (h : LoopJ s w wr [] no) (hn : no ≠ 1) : ∃ c gs v pk, RdR wr (w.heap.size + 1) (w.heap.size + 1) c v pk (expand gs) ∧ prsO s = .inr (c, gs) := by
  obtain ⟨_, _, h | ⟨h2, c, gs, v, pk, f, hr, _, hf, hp⟩⟩ := h
  · exact absurd h.1 hn
  · obtain ⟨f', rfl⟩ : ∃ f', f = f' + 1 := ⟨f - 1, by simp at hf; omega⟩
    refine ⟨c, gs, v, pk, hr, ?_⟩
    rw [hp, prsL, if_pos rfl, joinR, List.append_nil]
theorem rd_line (s : List UInt8) (w wr : World) (he : Env w) (t : List UInt8) (no : Nat) (hs : s.length ≤ 65536) (ht : t.length ≤ 65536) (h : LoopJ s w wr t no) (hc : no = 1 ∨ t ≠ []) (hen : (Lib.cut t [10]).2.2 = true) :
    Calls Tryd.prog 16 #[.pointer (some ⟨w.heap.size + 1, 0, none⟩), .int .i64 (no : Nat), .string ⟨(Lib.cut t [10]).1.toArray⟩] wr fun e w' => ∃ z : Int, e = .returned (.int .i64 z) ∧ Below w.heap.size w w' ∧ Blk w' w.heap.size 23 #[.int .i64 0, .int .i64 0, .int .i64 0, .int .i64 0, .int .i64 0] ∧ (z ≠ 0 → prsO s = .inl (no, z)) ∧ (z = 0 → LoopJ s w w' (Lib.cut t [10]).2.1 (no + 1)) := by
  have hlt := h.lt
  have hcl := cut_less hen
  have hE : Env wr := he.on h.1
  have key : ∀ w', Below (w.heap.size + 1) wr w' → Below w.heap.size w w' ∧ Blk w' w.heap.size 23 #[.int .i64 0, .int .i64 0, .int .i64 0, .int .i64 0, .int .i64 0] := fun w' hb => ⟨h.1.trans (hb.mono (by omega)), h.2.1.below hb (by omega)⟩
  obtain ⟨_, _, ⟨rfl, rfl, hr⟩ | ⟨h2, c, gs, v, pk, f, hr, hln, hf, hp⟩⟩ := id h
  · refine (rd_first _ _ cfg0 _ _ _ (Lib.cut t [10]).1 (by omega) wr hE hr (by omega)).mono ?_
    rintro e w' ⟨hb, rfl, hd⟩
    refine ⟨_, rfl, (key w' hb).1, (key w' hb).2, fun hz => ?_, fun hz => ?_⟩
    · unfold prsO
      rw [if_neg (by omega), hen, if_neg (by decide)]
      cases ho : cfgO (splitW (Lib.cut t [10]).1) with
      | none => rfl
      | some d =>
        rw [ho] at hz
        dsimp only at hz ⊢
        cases hck : chkB d with
        | true => rw [hck] at hz; exact absurd rfl hz
        | false => rfl
    · cases ho : cfgO (splitW (Lib.cut t [10]).1) with
      | none => rw [ho] at hz; dsimp only at hz; omega
      | some d =>
        rw [ho] at hz
        dsimp only at hz
        have hck : chkB d = true := by
          cases q : chkB d with
          | true => rfl
          | false => rw [q] at hz; simp at hz
        refine ⟨(key w' hb).1, (key w' hb).2, .inr ⟨by omega, d, [], _, _, t.length, hd d ho, by simp [expand], by omega, ?_⟩⟩
        unfold prsO
        rw [if_neg (by omega), hen, if_neg (by decide), ho]
        dsimp only
        rw [if_pos hck]
        rfl
  · have ht0 : t ≠ [] := by rcases hc with q | q; omega; exact q
    obtain ⟨f', rfl⟩ : ∃ f', f = f' + 1 := ⟨f - 1, by omega⟩
    refine (rd_next _ _ c v pk (expand gs) (Lib.cut t [10]).1 (by omega) no h2 wr hE hr (by omega) hln).mono ?_
    rintro e w' ⟨hb, hm⟩
    rw [prsL, if_neg ht0, hen, if_neg (by decide)] at hp
    cases ho : actsO (splitW (Lib.cut t [10]).1) with
    | none =>
      rw [ho] at hm hp
      exact ⟨12, hm, (key w' hb).1, (key w' hb).2, fun _ => hp, fun q => absurd q (by decide)⟩
    | some g =>
      obtain ⟨a, n⟩ := g
      rw [ho] at hm hp
      dsimp only at hm hp
      by_cases h1 : 0 ≤ pkOf a ∧ pkOf a = pk
      · rw [if_pos h1] at hm hp
        exact ⟨11, hm, (key w' hb).1, (key w' hb).2, fun _ => hp, fun q => absurd q (by decide)⟩
      · rw [if_neg h1] at hm hp
        by_cases h3 : 4096 < (expand gs).length + n
        · rw [if_pos h3] at hm hp
          exact ⟨9, hm, (key w' hb).1, (key w' hb).2, fun _ => hp, fun q => absurd q (by decide)⟩
        · rw [if_neg h3] at hm hp
          obtain ⟨rfl, v', hr'⟩ := hm
          refine ⟨0, rfl, (key w' hb).1, (key w' hb).2, fun q => absurd rfl q, fun _ => ⟨(key w' hb).1, (key w' hb).2, .inr ⟨by omega, c, gs ++ [(a, n)], v', pkOf a, f', by rw [expand_snoc]; exact hr', by rw [expand_snoc, List.length_append, List.length_replicate]; show _ + n ≤ _; omega, by omega, ?_⟩⟩⟩
          rw [hp, joinR_cons, expand_snoc, List.length_append, List.length_replicate]
set_option maxHeartbeats 16000000 in
set_option maxRecDepth 100000 in
/-- A text, read, by the program. -/
theorem sc_parse (s : List UInt8) (w : World) (he : Env w) (hs : s.length ≤ 140737488355328) :
    Calls Tryd.prog 6 #[.string ⟨s.toArray⟩] w (ParR s w) := by
  obtain ⟨R, hR⟩ : ∃ R : Ending → World → Prop, R = ParR s w := ⟨_, rfl⟩
  rw [← hR]
  have HR := Lib.hid hR
  have HE := Lib.hid he
  have hsz : (⟨s.toArray⟩ : ByteArray).size = s.length := by simp [ByteArray.size]
  have hb0 : Below w.heap.size w (w.alloc (.cells #[.int .i64 0, .int .i64 0, .int .i64 0, .int .i64 0, .int .i64 0] 23)) := bel_boxX _ _
  clear hR he
  by_cases hlong : 65536 < s.length
  · have hpr : prsO s = .inl (0, 9) := by unfold prsO; rw [if_pos hlong]
    have hl : decide ((65536 : Int) < (s.length : Int)) = true := decide_eq_true (by omega)
    have hl2 : (65536 : Int) < (s.length : Int) := by omega
    obtain ⟨W1, hst, hb1, hg1⟩ := stF_cfg (a := 0) (b := 0) (c := 0) (d := 0) (e := 0) (Blk.new w 23 #[.int .i64 0, .int .i64 0, .int .i64 0, .int .i64 0, .int .i64 0]) rfl
    have HB1 := Lib.hid hb1
    have HBE := Lib.hid (hb0.trans (below_of_only hg1 hb0.size (Nat.le_refl _)))
    clear hb1 hg1 hb0
    go_enter Tryd.func6, Tryd.ntmps6
    go_wp2_with (refine wpList_storeE hst _ _ rfl rfl rfl rfl ?_)
    refine bodyPost_ret (v := .tuple #[cfg0.v, .slice none 0 0, .int .i64 0, .int .i64 9]) (results_row13 (P := Tryd.prog) Tryd.results6 _ rfl HB1.out Tryd.underlying23 rfl (by kernel_rfl)) rfl ?_
    rw [HR.out]
    refine ⟨HBE.out, ?_⟩
    rw [hpr]
    rfl
  · have hl : decide ((65536 : Int) < (s.length : Int)) = false := decide_eq_false (by omega)
    have hl2 : ¬ (65536 : Int) < (s.length : Int) := by omega
    go_enter Tryd.func6, Tryd.ntmps6
    have hs65 : s.length ≤ 65536 := by omega
    have H0 : Hid (LoopJ s w ((w.alloc (.cells #[.int .i64 0, .int .i64 0, .int .i64 0, .int .i64 0, .int .i64 0] 23)).alloc (.cells #[.int .i64 0, .int .i64 0, .int .i64 0, .int .i64 0, .int .i64 0, .slice none 0 0, .int .i64 (-1)] 56)) s 1) := by
      have hb2 := hb0.alloc hb0.size (.cells #[.int .i64 0, .int .i64 0, .int .i64 0, .int .i64 0, .int .i64 0, .slice none 0 0, .int .i64 (-1)] 56)
      refine ⟨hb2, (Blk.new w _ _).alloc _, .inl ⟨rfl, rfl, ?_, PaS.nil_ _ _, Nat.le_refl _⟩⟩
      have := Blk.new (w.alloc (.cells #[.int .i64 0, .int .i64 0, .int .i64 0, .int .i64 0, .int .i64 0] 23)) 56 #[.int .i64 0, .int .i64 0, .int .i64 0, .int .i64 0, .int .i64 0, .slice none 0 0, .int .i64 (-1)]
      rw [alloc_sizeX] at this
      exact this
    clear hb0 hl hl2 hlong
    go_wp2_with fail
    go_loopw [0, 7, 8, 9, 10, 11, 26] (fun s0 s7 _ _ _ _ _ wr => ∃ (t : List UInt8) (no : Nat), s0 = .string ⟨t.toArray⟩ ∧ s7 = .int .i64 no ∧ t.length ≤ 65536 ∧ no + t.length ≤ 65537 ∧ 1 ≤ no ∧ Hid (LoopJ s w wr t no)) (fun s0 _ _ _ _ _ _ _ => lenS s0)
    case atStart => exact ⟨s, 1, rfl, rfl, hs65, by omega, by omega, H0⟩
    case round =>
      clear H0
      obtain ⟨t, no, rfl, rfl, ht, hnt, hno, HL⟩ := hrel
      by_cases h1 : no = 1
      · subst h1
        have hc : 1 = 1 ∨ t ≠ [] := .inl rfl
        have hcut := Lib.hid (sc_cut t ht wr (HE.out.on HL.out.1))
        obtain ⟨en, hen⟩ : ∃ b, (Lib.cut t [10]).2.2 = b := ⟨_, rfl⟩
        have HEN := Lib.hid hen
        rw [hen] at hcut
        cases en with
        | false =>
          have HPR := Lib.hid (HL.out.short hs65 hc hen)
          obtain ⟨ln, hln⟩ : ∃ x, (Lib.cut t [10]).1 = x := ⟨_, rfl⟩
          obtain ⟨rs, hrs⟩ : ∃ x, (Lib.cut t [10]).2.1 = x := ⟨_, rfl⟩
          rw [hln, hrs] at hcut
          clear hen hln hrs
          go_wp2_with (go_at_call 15; refine hcut.out.mono ?_)
          first | rintro e w2 rfl hb2 | rintro e w2 ⟨rfl, hb2⟩
          have HL2 := HL.out.below hb2
          have HBZ := Lib.hid HL2.2.1
          have HBE := Lib.hid HL2.1
          clear hb2 HL2 hcut
          obtain ⟨w9, hst, hb9, hg9⟩ := stF_cfg (a := 0) (b := 0) (c := 0) (d := 0) (e := 0) HBZ.out rfl
          have HB9 := Lib.hid hb9
          have HBE9 := Lib.hid (HBE.out.trans (below_of_only hg9 HBE.out.size (Nat.le_refl _)))
          clear hb9 hg9
          go_wp2_with (refine wpList_storeE hst _ _ rfl rfl rfl rfl ?_)
          refine bodyPost_ret (v := .tuple #[cfg0.v, .slice none 0 0, .int .i64 (1 : Nat), .int .i64 12]) (results_row13 (P := Tryd.prog) Tryd.results6 _ rfl HB9.out Tryd.underlying23 rfl (by kernel_rfl)) rfl ?_
          rw [HR.out]
          refine ⟨HBE9.out, ?_⟩
          rw [HPR.out]
        | true =>
          have hcl := cut_less hen
          have HLN : Hid (∀ W, Below wr.heap.size wr W → Calls Tryd.prog 16 #[.pointer (some ⟨w.heap.size + 1, 0, none⟩), .int .i64 (1 : Nat), .string ⟨(Lib.cut t [10]).1.toArray⟩] W fun e w' => ∃ z : Int, e = .returned (.int .i64 z) ∧ Below w.heap.size w w' ∧ Blk w' w.heap.size 23 #[.int .i64 0, .int .i64 0, .int .i64 0, .int .i64 0, .int .i64 0] ∧ (z ≠ 0 → prsO s = .inl (1, z)) ∧ (z = 0 → LoopJ s w w' (Lib.cut t [10]).2.1 (1 + 1))) := fun W hW => rd_line s w W HE.out t 1 hs65 ht (HL.out.below hW) hc HEN.out
          obtain ⟨ln, hln⟩ : ∃ x, (Lib.cut t [10]).1 = x := ⟨_, rfl⟩
          obtain ⟨rs, hrs⟩ : ∃ x, (Lib.cut t [10]).2.1 = x := ⟨_, rfl⟩
          rw [hln, hrs] at hcut HLN hcl
          clear hen hln hrs HEN
          go_wp2_with (go_at_call 15; refine hcut.out.mono ?_)
          first | rintro e w2 rfl hb2 | rintro e w2 ⟨rfl, hb2⟩
          have HL3 := Lib.hid (HLN.out w2 hb2)
          clear hb2 hcut HLN
          go_wp2_with (go_at_call 16; refine HL3.out.mono ?_)
          first | rintro e w3 z rfl hbe hbz hz1 hz2 | rintro e w3 ⟨z, rfl, hbe, hbz, hz1, hz2⟩
          have HBZ := Lib.hid hbz
          have HBE := Lib.hid hbe
          clear hbz hbe HL3
          by_cases hz : z = 0
          · subst hz
            have HLL := Lib.hid (hz2 rfl)
            clear hz1 hz2
            go_wp2
            go_roundw
            case rel => exact ⟨rs, 1 + 1, rfl, by go_num, by omega, by omega, by omega, HLL⟩
            case measure => show (⟨rs.toArray⟩ : ByteArray).size < (⟨t.toArray⟩ : ByteArray).size; simp [ByteArray.size]; omega
          · have HPR := Lib.hid (hz1 hz)
            have dz : (z == 0) = false := beq_eq_false_iff_ne.2 hz
            clear hz1 hz2
            obtain ⟨w9, hst, hb9, hg9⟩ := stF_cfg (a := 0) (b := 0) (c := 0) (d := 0) (e := 0) HBZ.out rfl
            have HB9 := Lib.hid hb9
            have HBE9 := Lib.hid (HBE.out.trans (below_of_only hg9 HBE.out.size (Nat.le_refl _)))
            clear hb9 hg9
            go_wp2_with (refine wpList_storeE hst _ _ rfl rfl rfl rfl ?_)
            refine bodyPost_ret (v := .tuple #[cfg0.v, .slice none 0 0, .int .i64 (1 : Nat), .int .i64 z]) (results_row13 (P := Tryd.prog) Tryd.results6 _ rfl HB9.out Tryd.underlying23 rfl (by kernel_rfl)) rfl ?_
            rw [HR.out]
            refine ⟨HBE9.out, ?_⟩
            rw [HPR.out]
      · have d1 : ((no : Int) == 1) = false := by rw [beq_eq_false_iff_ne]; omega
        cases t with
        | nil =>
          obtain ⟨c, gs, v, pk, hr, hp⟩ := HL.out.exit h1
          have HRD := Lib.hid hr
          have HPR := Lib.hid hp
          have HBZ := Lib.hid HL.out.2.1
          have HBE := Lib.hid HL.out.1
          obtain ⟨A, n, cp, hv⟩ : ∃ A n cp, v = .slice A n cp := by
            obtain ⟨css, k1, _⟩ := hr.pa
            rcases k1.2 with ⟨e, e0⟩ | ⟨g, cap, cur, e, _⟩
            · exact ⟨none, 0, 0, e⟩
            · exact ⟨_, _, cap, e⟩
          subst hv
          clear hr hp HL
          go_wp2_with fail
          refine wp_region_held_drew (S := fun W => Blk W (w.heap.size + 1) 56 #[.int .i64 c.dim, .int .i64 c.cap, .int .i64 c.links, .int .i64 c.ef, .int .i64 c.wks, .slice A n cp, .int .i64 pk]) (by kernel_rfl) HRD.out.bl (fun hH => ?_)
          refine wpAnyH_take (i := 0) (v := .pointer (some ⟨(w.heap.size + 1), 0, none⟩)) rfl (by kernel_rfl) (by kernel_rfl) (by kernel_rfl) (fun _ _ _ h => h) (.inl ⟨by rfl, fun _ _ => by kernel_rfl⟩) hH ?_
          (try simp only [List.getElem_toArray, List.getElem_cons_zero, Act.put, List.setIfInBounds_toArray, List.set_cons_zero, List.set_cons_succ])
          refine wpAnyH_take (i := 1) (v := .pointer (some ⟨(w.heap.size + 1), 0, none⟩)) rfl (by kernel_rfl) (by kernel_rfl) (by kernel_rfl) (fun _ _ _ h => h) (.inl ⟨by rfl, fun _ _ => by kernel_rfl⟩) hH ?_
          (try simp only [List.getElem_toArray, List.getElem_cons_zero, List.getElem_cons_succ, Act.put, List.setIfInBounds_toArray, List.set_cons_zero, List.set_cons_succ])
          refine wpAnyH_take (i := 2) (v := .pointer (some ⟨(w.heap.size + 1), 0, none⟩)) rfl (by kernel_rfl) (by kernel_rfl) (by kernel_rfl) (fun _ _ _ h => h) (.inl ⟨by rfl, fun _ _ => by kernel_rfl⟩) hH ?_
          (try simp only [List.getElem_toArray, List.getElem_cons_zero, List.getElem_cons_succ, Act.put, List.setIfInBounds_toArray, List.set_cons_zero, List.set_cons_succ])
          refine wpAnyH_take (i := 3) (v := .agg #[.int .i64 c.dim, .int .i64 c.cap, .int .i64 c.links, .int .i64 c.ef, .int .i64 c.wks]) rfl (by kernel_rfl) (by kernel_rfl) (by kernel_rfl) (fun _ _ _ h => h) (yieldsIf_loadP (by rfl) _ rfl rfl (fun _ q => loadJ_cfg q)) hH ?_
          (try simp only [List.getElem_toArray, List.getElem_cons_zero, List.getElem_cons_succ, Act.put, List.setIfInBounds_toArray, List.set_cons_zero, List.set_cons_succ])
          refine wpAnyH_take (i := 4) (v := .pointer (some ⟨(w.heap.size + 1), 0, none⟩)) rfl (by kernel_rfl) (by kernel_rfl) (by kernel_rfl) (fun _ _ _ h => h) (.inl ⟨by rfl, fun _ _ => by kernel_rfl⟩) hH ?_
          (try simp only [List.getElem_toArray, List.getElem_cons_zero, List.getElem_cons_succ, Act.put, List.setIfInBounds_toArray, List.set_cons_zero, List.set_cons_succ])
          refine wpAnyH_take (i := 5) (v := .pointer (some ⟨(w.heap.size + 1), 0, none⟩)) rfl (by kernel_rfl) (by kernel_rfl) (by kernel_rfl) (fun _ _ _ h => h) (.inl ⟨by rfl, fun _ _ => by kernel_rfl⟩) hH ?_
          (try simp only [List.getElem_toArray, List.getElem_cons_zero, List.getElem_cons_succ, Act.put, List.setIfInBounds_toArray, List.set_cons_zero, List.set_cons_succ])
          refine wpAnyH_take (i := 6) (v := .pointer (some ⟨(w.heap.size + 1), 5, none⟩)) rfl (by kernel_rfl) (by kernel_rfl) (by kernel_rfl) (fun _ _ _ h => h) (.inl ⟨by rfl, fun _ _ => by kernel_rfl⟩) hH ?_
          (try simp only [List.getElem_toArray, List.getElem_cons_zero, List.getElem_cons_succ, Act.put, List.setIfInBounds_toArray, List.set_cons_zero, List.set_cons_succ])
          refine wpAnyH_take (i := 7) (v := .slice A n cp) rfl (by kernel_rfl) (by kernel_rfl) (by kernel_rfl) (fun _ _ _ h => h) (yieldsIf_loadP (by rfl) _ rfl rfl (fun _ q => loadJ_acts (q.cell 5))) hH ?_
          (try simp only [List.getElem_toArray, List.getElem_cons_zero, List.getElem_cons_succ, Act.put, List.setIfInBounds_toArray, List.set_cons_zero, List.set_cons_succ])
          obtain ⟨w9, hst, hb9, hg9⟩ := stF_cfg (W := wr.drew) (a := c.dim) (b := c.cap) (c := c.links) (d := c.ef) (e := c.wks) HBZ.out rfl
          have hS9 := hH.grown hg9 (fun e => by injection e with e; omega)
          refine wpAnyH_store 8 _ _ _ (by kernel_rfl) (by rfl) (by kernel_rfl) (by rfl) (by rfl) (by rfl) hst hS9 ?_
          (try simp only [List.getElem_toArray, List.getElem_cons_zero, List.getElem_cons_succ, Act.put])
          have HB9 := Lib.hid hb9
          have HBE9 := Lib.hid ((below_drewN HBE.out 1).trans (below_of_only (a := wr.drew) hg9 HBE.out.size (Nat.le_refl _)))
          have HPA : Hid (PaS w9 (w.heap.size + 1) (.slice A n cp) (expand gs)) := PaS.other (w := wr.drew) HRD.out.pa HBZ.out (by decide) (by decide) hg9
          clear hst hb9 hg9
          refine wpAnyH_value 9 (.slice A n cp) (by kernel_rfl) (by rfl) (by kernel_rfl) (by kernel_rfl) hS9 ?_
          (try simp only [List.getElem_toArray, List.getElem_cons_zero, List.getElem_cons_succ, Act.put, List.setIfInBounds_toArray, List.set_cons_zero, List.set_cons_succ])
          refine wpAnyH_value 10 (.int .i64 0) (by kernel_rfl) (by rfl) (by kernel_rfl) (by kernel_rfl) hS9 ?_
          (try simp only [List.getElem_toArray, List.getElem_cons_zero, List.getElem_cons_succ, Act.put, List.setIfInBounds_toArray, List.set_cons_zero, List.set_cons_succ])
          refine wpAnyH_value 11 (.int .i64 0) (by kernel_rfl) (by rfl) (by kernel_rfl) (by kernel_rfl) hS9 ?_
          (try simp only [List.getElem_toArray, List.getElem_cons_zero, List.getElem_cons_succ, Act.put, List.setIfInBounds_toArray, List.set_cons_zero, List.set_cons_succ])
          refine wpAnyH_done (by kernel_rfl) ?_ _
          go_wp2_with fail
          refine bodyPost_ret (v := .tuple #[c.v, .slice A n cp, .int .i64 0, .int .i64 0]) (results_row13 (P := Tryd.prog) Tryd.results6 _ rfl HB9.out Tryd.underlying23 rfl (by kernel_rfl)) rfl ?_
          rw [HR.out]
          refine ⟨HBE9.out, ?_⟩
          rw [HPR.out]
          refine ⟨_, rfl, ?_⟩
          obtain ⟨css, k1, k2⟩ := HPA.out
          exact ⟨css, World.ownsRow.mono k1 (by omega), k2⟩
        | cons x r =>
          have hc : no = 1 ∨ (x :: r) ≠ [] := .inr (by simp)
          obtain ⟨t, htt⟩ : ∃ t, x :: r = t := ⟨_, rfl⟩
          have d2 : (t == []) = false := by rw [← htt]; rfl
          rw [htt] at hc HL ht hnt ⊢
          clear htt
          have hcut := Lib.hid (sc_cut t ht wr (HE.out.on HL.out.1))
          obtain ⟨en, hen⟩ : ∃ b, (Lib.cut t [10]).2.2 = b := ⟨_, rfl⟩
          have HEN := Lib.hid hen
          rw [hen] at hcut
          cases en with
          | false =>
            have HPR := Lib.hid (HL.out.short hs65 hc hen)
            obtain ⟨ln, hln⟩ : ∃ x, (Lib.cut t [10]).1 = x := ⟨_, rfl⟩
            obtain ⟨rs, hrs⟩ : ∃ x, (Lib.cut t [10]).2.1 = x := ⟨_, rfl⟩
            rw [hln, hrs] at hcut
            clear hen hln hrs
            go_wp2_with (go_at_call 15; refine hcut.out.mono ?_)
            first | rintro e w2 rfl hb2 | rintro e w2 ⟨rfl, hb2⟩
            have HL2 := HL.out.below hb2
            have HBZ := Lib.hid HL2.2.1
            have HBE := Lib.hid HL2.1
            clear hb2 HL2 hcut
            obtain ⟨w9, hst, hb9, hg9⟩ := stF_cfg (a := 0) (b := 0) (c := 0) (d := 0) (e := 0) HBZ.out rfl
            have HB9 := Lib.hid hb9
            have HBE9 := Lib.hid (HBE.out.trans (below_of_only hg9 HBE.out.size (Nat.le_refl _)))
            clear hb9 hg9
            go_wp2_with (refine wpList_storeE hst _ _ rfl rfl rfl rfl ?_)
            refine bodyPost_ret (v := .tuple #[cfg0.v, .slice none 0 0, .int .i64 (no : Nat), .int .i64 12]) (results_row13 (P := Tryd.prog) Tryd.results6 _ rfl HB9.out Tryd.underlying23 rfl (by kernel_rfl)) rfl ?_
            rw [HR.out]
            refine ⟨HBE9.out, ?_⟩
            rw [HPR.out]
          | true =>
            have hcl := cut_less hen
            have HLN : Hid (∀ W, Below wr.heap.size wr W → Calls Tryd.prog 16 #[.pointer (some ⟨w.heap.size + 1, 0, none⟩), .int .i64 (no : Nat), .string ⟨(Lib.cut t [10]).1.toArray⟩] W fun e w' => ∃ z : Int, e = .returned (.int .i64 z) ∧ Below w.heap.size w w' ∧ Blk w' w.heap.size 23 #[.int .i64 0, .int .i64 0, .int .i64 0, .int .i64 0, .int .i64 0] ∧ (z ≠ 0 → prsO s = .inl (no, z)) ∧ (z = 0 → LoopJ s w w' (Lib.cut t [10]).2.1 (no + 1))) := fun W hW => rd_line s w W HE.out t no hs65 ht (HL.out.below hW) hc HEN.out
            obtain ⟨ln, hln⟩ : ∃ x, (Lib.cut t [10]).1 = x := ⟨_, rfl⟩
            obtain ⟨rs, hrs⟩ : ∃ x, (Lib.cut t [10]).2.1 = x := ⟨_, rfl⟩
            rw [hln, hrs] at hcut HLN hcl
            clear hen hln hrs HEN
            go_wp2_with (go_at_call 15; refine hcut.out.mono ?_)
            first | rintro e w2 rfl hb2 | rintro e w2 ⟨rfl, hb2⟩
            have HL3 := Lib.hid (HLN.out w2 hb2)
            clear hb2 hcut HLN
            go_wp2_with (go_at_call 16; refine HL3.out.mono ?_)
            first | rintro e w3 z rfl hbe hbz hz1 hz2 | rintro e w3 ⟨z, rfl, hbe, hbz, hz1, hz2⟩
            have HBZ := Lib.hid hbz
            have HBE := Lib.hid hbe
            clear hbz hbe HL3
            by_cases hz : z = 0
            · subst hz
              have HLL := Lib.hid (hz2 rfl)
              clear hz1 hz2
              go_wp2
              go_roundw
              case rel => exact ⟨rs, no + 1, rfl, by go_num, by omega, by omega, by omega, HLL⟩
              case measure => show (⟨rs.toArray⟩ : ByteArray).size < (⟨t.toArray⟩ : ByteArray).size; simp [ByteArray.size]; omega
            · have HPR := Lib.hid (hz1 hz)
              have dz : (z == 0) = false := beq_eq_false_iff_ne.2 hz
              clear hz1 hz2
              obtain ⟨w9, hst, hb9, hg9⟩ := stF_cfg (a := 0) (b := 0) (c := 0) (d := 0) (e := 0) HBZ.out rfl
              have HB9 := Lib.hid hb9
              have HBE9 := Lib.hid (HBE.out.trans (below_of_only hg9 HBE.out.size (Nat.le_refl _)))
              clear hb9 hg9
              go_wp2_with (refine wpList_storeE hst _ _ rfl rfl rfl rfl ?_)
              refine bodyPost_ret (v := .tuple #[cfg0.v, .slice none 0 0, .int .i64 (no : Nat), .int .i64 z]) (results_row13 (P := Tryd.prog) Tryd.results6 _ rfl HB9.out Tryd.underlying23 rfl (by kernel_rfl)) rfl ?_
              rw [HR.out]
              refine ⟨HBE9.out, ?_⟩
              rw [HPR.out]
end Go.Proofs.YtillmlaoppibfaaDoor
