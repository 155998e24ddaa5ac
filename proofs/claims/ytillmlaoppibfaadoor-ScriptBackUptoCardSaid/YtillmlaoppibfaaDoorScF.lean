/- Scripts: a first line's config, by the program. (Printed by tools/genScF.py.) -/
import Derived.Test.YtillmlaoppibfaaDoorScS
import Derived.Test.YtillmlaoppibfaaDoorScC
import Derived.Test.YtillmlaoppibfaaDoorScY
import Derived.Test.YtillmlaoppibfaaDoorScR
namespace Go.Proofs.YtillmlaoppibfaaDoor
open Go.RowKit Go.Sort
theorem results_row11F {P : Program} {fn : Func} {p u : Tmp} {t1 : TypeId} (h : fn.results = #[.cell p t1, .tmp u]) (tmps : Array Value) {w : World} {g1 : Nat} {c1 : Array Value} {d1 : TypeDesc}
    (hp : tmps.getD p undef = .pointer (some ⟨g1, 0, none⟩)) {u1 : Nat} (b1 : Blk w g1 u1 c1)
    (hu1 : P.underlying t1 = some d1) (hd1 : (match d1 with | .struct _ | .array _ _ => true | _ => false) = true) (hi1 : (P.info? t1).map (·.size) = some c1.size) :
    (results fn tmps).run P w = .ok (.tuple #[.agg c1, tmps.getD u undef]) w := by
  have hp' : tmps[p]?.getD undef = .pointer (some ⟨g1, 0, none⟩) := by simpa using hp
  simp [results, h, hp', asAddr, run_loadVar_row w g1 u1 t1 c1 (0, 0) d1 b1 hu1 hd1 hi1, Result.andThen]
theorem loadF_ptr {W : World} {g : Nat} {v : Value} (h : Blk W g 80 #[v]) : (Instr.loadAt 80 (.pointer (some ⟨g, 0, none⟩))).run Tryd.prog W = .ok v W := by
  have h0 : W.cell? ⟨g, 0, none⟩ = some v := h.cell 0
  simp [go_sem, h0]
theorem loadF_cfg {W : World} {g : Nat} {xs : Array Value} (h : Blk W g 23 xs) (hs : xs.size = 5) : (Instr.loadAt 23 (.pointer (some ⟨g, 0, none⟩))).run Tryd.prog W = .ok (.agg xs) W :=
  row_load h Tryd.underlying23 rfl (by rw [hs]; kernel_rfl)
theorem stF_cfg {W : World} {g : Nat} {xs : Array Value} {a b c d e : Int} (h : Blk W g 23 xs) (hs : xs.size = 5) :
    ∃ W', (Instr.storeAt 23 (.pointer (some ⟨g, 0, none⟩)) (.agg #[.int .i64 a, .int .i64 b, .int .i64 c, .int .i64 d, .int .i64 e])).run Tryd.prog W = .ok () W' ∧ Blk W' g 23 #[.int .i64 a, .int .i64 b, .int .i64 c, .int .i64 d, .int .i64 e] ∧ W.grownBy W' (some g) := by
  refine ⟨_, row_store h #[.int .i64 a, .int .i64 b, .int .i64 c, .int .i64 d, .int .i64 e] (by rw [hs]; rfl) (by kernel_rfl) (by simp [Value.oneCell']), ?_, only_setCells (World.grownBy.refl W _) _ _⟩
  obtain ⟨l⟩ := xs
  match l, hs, h with
  | [_, _, _, _, _], _, h => exact ((((h.set_ 0 _).set_ 1 _).set_ 2 _).set_ 3 _).set_ 4 _
theorem convF {n : Nat} : ∃ z : Int, (∀ w, (convert 33 3 (.int .u64 (n : Nat))).run Tryd.prog w = .ok (.int .i64 z) w) ∧ (n ≤ 9007199254740992 → z = n) := by
  refine ⟨IntKind.i64.wrap n, fun w => ?_, fun h => by rw [IntKind.wrap_i64]; omega⟩
  have := run_convert_int (P := Tryd.prog) w 33 3 .u64 n (by kernel_rfl) (by kernel_rfl)
  rw [this, show Tryd.prog.intKind 3 = .i64 from by kernel_rfl]
set_option maxHeartbeats 2000000 in
set_option maxRecDepth 100000 in
theorem cf_num (b q : Nat) (ws : List (List UInt8)) (bad : Bool) (hl : (ws.headD []).length ≤ 4294967280) (W : World) (he : Env W) (ht : TkS W b ws bad) (hq : Blk W q 80 #[.pointer (some ⟨b, 0, none⟩)]) :
    Calls Tryd.prog 37 #[.pointer (some ⟨q, 0, none⟩)] W fun e w' => ∃ z : Int, e = .returned (.int .i64 z) ∧ (∀ u, numO (ws.headD []) c53 = some u → z = u) ∧ TkS w' b ws.tail (bad || (numO (ws.headD []) c53).isNone) ∧ W.grownBy w' (some b) := by
  have HN := Lib.hid (tk_num b ws bad c53 hl W he ht)
  have c0 : W.cell? ⟨q, 0, none⟩ = some (.pointer (some ⟨b, 0, none⟩)) := hq.cell 0
  obtain ⟨o, ho⟩ : ∃ o, numO (ws.headD []) c53 = o := ⟨_, rfl⟩
  have HO := Lib.hid ho
  rw [ho] at HN ⊢
  obtain ⟨R, hR⟩ : ∃ R : Ending → World → Prop, R = fun e w' => ∃ z : Int, e = .returned (.int .i64 z) ∧ (∀ u, o = some u → z = u) ∧ TkS w' b ws.tail (bad || o.isNone) ∧ W.grownBy w' (some b) := ⟨_, rfl⟩
  rw [← hR]
  have HR := Lib.hid hR
  clear he ht hq ho hR
  go_enter Tryd.func37, Tryd.ntmps37
  go_wp2_with (go_at_call 38; refine HN.out.mono ?_)
  rintro e w1 ⟨n, rfl, hn, hu, h1⟩
  obtain ⟨z, hz, hz'⟩ := convF (n := n)
  have HZ : Hid (∀ u, o = some u → z = u) := fun u hq => by
    have h2 := hu u hq
    rw [← h2] at hq
    have h3 := (numO_some (HO.out.trans hq)).1
    rw [hz' h3, h2]
  have HX := Lib.hid h1
  clear hn hu h1 hz' HN
  go_wp2
  rw [HR.out]
  exact ⟨z, rfl, HZ.out, HX.out.1, HX.out.2⟩
/-- Between the numbers of a first line. -/
structure CfS (w0 w : World) (ws : List (List UInt8)) (bad : Bool) : Prop where
  tk : TkS w (w0.heap.size + 2) ws bad
  bq : Blk w (w0.heap.size + 3) 80 #[.pointer (some ⟨w0.heap.size + 2, 0, none⟩)]
  br : Blk w w0.heap.size 23 #[.int .i64 0, .int .i64 0, .int .i64 0, .int .i64 0, .int .i64 0]
  be : Below w0.heap.size w0 w
theorem CfS.num {w0 w w' : World} {ws ws' : List (List UInt8)} {bad bad' : Bool} (h : CfS w0 w ws bad) (ht : TkS w' (w0.heap.size + 2) ws' bad') (hg : w.grownBy w' (some (w0.heap.size + 2))) : CfS w0 w' ws' bad' :=
  ⟨ht, h.bq.grown hg (fun e => by injection e with e; omega), h.br.grown hg (fun e => by injection e with e; omega), h.be.trans (below_of_only hg h.be.size (by omega))⟩
theorem CfS.begin (l : List UInt8) (w : World) (h8 : 8 ≤ w.heap.size) (W : World) (hW : ((((w.alloc (.cells #[.int .i64 0, .int .i64 0, .int .i64 0, .int .i64 0, .int .i64 0] 23)).alloc (.cells ((splitW l).map wv).toArray 9)).alloc (.cells #[.slice (some ⟨w.heap.size + 1, 0, none⟩) (splitW l).length (splitW l).length, .bool false] 84)).alloc (.cells #[.pointer (some ⟨w.heap.size + 2, 0, none⟩)] 80)) = W) : CfS w W (splitW l) false := by
  subst hW
  have s1 := alloc_sizeX w (.cells #[.int .i64 0, .int .i64 0, .int .i64 0, .int .i64 0, .int .i64 0] 23)
  have hT := TkS.begin l (w.alloc (.cells #[.int .i64 0, .int .i64 0, .int .i64 0, .int .i64 0, .int .i64 0] 23)) (by rw [s1]; omega)
  rw [s1] at hT
  refine ⟨hT.grown (bel_boxX _ _), ?_, ((Blk.new w _ _).alloc _).alloc _ |>.alloc _, ?_⟩
  · have := Blk.new (((w.alloc (.cells #[.int .i64 0, .int .i64 0, .int .i64 0, .int .i64 0, .int .i64 0] 23)).alloc (.cells ((splitW l).map wv).toArray 9)).alloc (.cells #[.slice (some ⟨w.heap.size + 1, 0, none⟩) (splitW l).length (splitW l).length, .bool false] 84)) 80 #[.pointer (some ⟨w.heap.size + 2, 0, none⟩)]
    rwa [alloc_sizeX, alloc_sizeX, alloc_sizeX] at this
  · have b1 := bel_boxX w (.cells #[.int .i64 0, .int .i64 0, .int .i64 0, .int .i64 0, .int .i64 0] 23)
    have b2 := b1.alloc b1.size (.cells ((splitW l).map wv).toArray 9)
    have b3 := b2.alloc b2.size (.cells #[.slice (some ⟨w.heap.size + 1, 0, none⟩) (splitW l).length (splitW l).length, .bool false] 84)
    exact b3.alloc b3.size _
theorem cfgO_drop (ws : List (List UInt8)) : cfgO ws = match numO ((ws.drop 1).headD []) c53, numO ((ws.drop 2).headD []) c53, numO ((ws.drop 3).headD []) c53, numO ((ws.drop 4).headD []) c53, numO ((ws.drop 5).headD []) c53 with
    | some a, some b, some c, some d, some e => if ws.drop 6 = [] ∧ ws.headD [] = storeW then some ⟨a, b, c, d, e⟩ else none
    | _, _, _, _, _ => none := by
  unfold cfgO
  simp only [← List.drop_one, List.drop_drop]
  cases numO ((ws.drop 1).headD []) c53 <;> cases numO ((ws.drop 2).headD []) c53 <;> cases numO ((ws.drop 3).headD []) c53 <;> cases numO ((ws.drop 4).headD []) c53 <;> cases numO ((ws.drop 5).headD []) c53 <;> rfl
theorem yieldsIf_eqS {P : Program} {ops : Array Oper} {S : World → Prop} {o : Oper} {a : Act} {t t' : TypeId} {x y : Operand} {u v : ByteArray} {r : Bool} (hw : Region.wanted o (yielded ops a.tmps) = true) (ho : o.op = .binOp .eql t x y t') (hx : a.eval x = .string u) (hy : a.eval y = .string v) (hr : (u.toList == v.toList) = r) : YieldsIf P ops S o (.bool r) a := by
  refine .inl ⟨hw, fun w _ => ?_⟩
  unfold execOp
  simp only [ho, hx, hy]
  simp [go_sem, ← hr]
set_option maxHeartbeats 8000000 in
set_option maxRecDepth 100000 in
/-- A first line's config. -/
theorem sc_config (l : List UInt8) (hl : l.length ≤ 65536) (w : World) (he : Env w) :
    Calls Tryd.prog 27 #[.string ⟨l.toArray⟩] w fun e w' => ∃ c : SCfg, e = .returned (.tuple #[c.v, .bool (cfgO (splitW l)).isSome]) ∧ (∀ d, cfgO (splitW l) = some d → c = d) ∧ Below w.heap.size w w' := by
  obtain ⟨R, hR⟩ : ∃ R : Ending → World → Prop, R = fun e w' => ∃ c : SCfg, e = .returned (.tuple #[c.v, .bool (cfgO (splitW l)).isSome]) ∧ (∀ d, cfgO (splitW l) = some d → c = d) ∧ Below w.heap.size w w' := ⟨_, rfl⟩
  rw [← hR]
  have HR := Lib.hid hR
  have hSP := Lib.hid (sc_split l hl (w.alloc (.cells #[.int .i64 0, .int .i64 0, .int .i64 0, .int .i64 0, .int .i64 0] 23)) (he.on (bel_boxX _ _)))
  obtain ⟨W0, hW0⟩ : ∃ W, ((((w.alloc (.cells #[.int .i64 0, .int .i64 0, .int .i64 0, .int .i64 0, .int .i64 0] 23)).alloc (.cells ((splitW l).map wv).toArray 9)).alloc (.cells #[.slice (some ⟨w.heap.size + 1, 0, none⟩) (splitW l).length (splitW l).length, .bool false] 84)).alloc (.cells #[.pointer (some ⟨w.heap.size + 2, 0, none⟩)] 80)) = W := ⟨_, rfl⟩
  have hC := CfS.begin l w he.lo W0 hW0
  have HE := Lib.hid he
  obtain ⟨ws, hws⟩ : ∃ ws, splitW l = ws := ⟨_, rfl⟩
  have HWW : Hid (∀ x ∈ ws, x.length ≤ 4294967280) := fun x hx => by
    have := splitW_word (l := l) (x := x) (by rw [hws]; exact hx)
    omega
  rw [hws] at hC hSP hW0
  have HWS := Lib.hid hws
  rw [alloc_sizeX] at hSP
  obtain ⟨N, hN⟩ : ∃ N, ws.length = N := ⟨_, rfl⟩
  rw [hN] at hSP hW0
  obtain ⟨RW, hRW⟩ : ∃ RW : Array Value, (ws.map wv).toArray = RW := ⟨_, rfl⟩
  rw [hRW] at hSP hW0
  have HHD : Hid (∀ k, ((ws.drop k).headD []).length ≤ 4294967280) := fun k => by
    cases hk : ws.drop k with
    | nil => simp
    | cons x r => exact HWW.out x (List.mem_of_mem_drop (by rw [hk]; simp))
  have HW0 := Lib.hid hW0
  have HNX := Lib.hid (tk_next _ ws false _ hC.tk)
  have HC := Lib.hid hC
  clear hR hC he hl hws hN hRW hW0
  go_enter Tryd.func27, Tryd.ntmps27
  go_wp2_with (go_at_call 35; refine hSP.out.mono ?_; rintro e w' ⟨rfl, hw'⟩; rw [hw']; clear hw')
  rw [HW0.out]
  clear HW0 hSP
  refine HNX.out.mono ?_
  rintro e w1 ⟨rfl, ht1, hg1⟩
  obtain ⟨word, hword⟩ : ∃ x, ws.headD [] = x := ⟨_, rfl⟩
  obtain ⟨bd0, hbd0⟩ : ∃ x, (false || ws.isEmpty) = x := ⟨_, rfl⟩
  rw [hbd0, ← List.drop_one] at ht1
  rw [hword]
  have HWD := Lib.hid hword
  have HBD0 := Lib.hid hbd0
  have HC1 := Lib.hid (HC.out.num ht1 hg1)
  unfold wv
  clear hbd0 hword ht1 hg1 HNX
  have HN1 := Lib.hid (cf_num _ _ (ws.drop 1) bd0 (HHD.out 1) _ (HE.out.on HC1.out.be) HC1.out.tk HC1.out.bq)
  go_wp2_with (go_at_call 37; refine HN1.out.mono ?_)
  rintro e x1 ⟨z1, rfl, hu1, ht1, hg1⟩
  obtain ⟨o1, ho1⟩ : ∃ o, numO ((ws.drop 1).headD []) c53 = o := ⟨_, rfl⟩
  rw [ho1] at hu1 ht1
  obtain ⟨bd1, hbd1⟩ : ∃ x, (bd0 || o1.isNone) = x := ⟨_, rfl⟩
  rw [hbd1, List.tail_drop] at ht1
  have HC2 := Lib.hid (HC1.out.num ht1 hg1)
  have HU1 := Lib.hid hu1
  have HO1 := Lib.hid ho1
  have HBD1 := Lib.hid hbd1
  clear hu1 ht1 hg1 ho1 hbd1 HN1 HC1
  have HN2 := Lib.hid (cf_num _ _ (ws.drop 2) bd1 (HHD.out 2) _ (HE.out.on HC2.out.be) HC2.out.tk HC2.out.bq)
  go_wp2_with (go_at_call 37; refine HN2.out.mono ?_)
  rintro e x2 ⟨z2, rfl, hu2, ht2, hg2⟩
  obtain ⟨o2, ho2⟩ : ∃ o, numO ((ws.drop 2).headD []) c53 = o := ⟨_, rfl⟩
  rw [ho2] at hu2 ht2
  obtain ⟨bd2, hbd2⟩ : ∃ x, (bd1 || o2.isNone) = x := ⟨_, rfl⟩
  rw [hbd2, List.tail_drop] at ht2
  have HC3 := Lib.hid (HC2.out.num ht2 hg2)
  have HU2 := Lib.hid hu2
  have HO2 := Lib.hid ho2
  have HBD2 := Lib.hid hbd2
  clear hu2 ht2 hg2 ho2 hbd2 HN2 HC2
  have HN3 := Lib.hid (cf_num _ _ (ws.drop 3) bd2 (HHD.out 3) _ (HE.out.on HC3.out.be) HC3.out.tk HC3.out.bq)
  go_wp2_with (go_at_call 37; refine HN3.out.mono ?_)
  rintro e x3 ⟨z3, rfl, hu3, ht3, hg3⟩
  obtain ⟨o3, ho3⟩ : ∃ o, numO ((ws.drop 3).headD []) c53 = o := ⟨_, rfl⟩
  rw [ho3] at hu3 ht3
  obtain ⟨bd3, hbd3⟩ : ∃ x, (bd2 || o3.isNone) = x := ⟨_, rfl⟩
  rw [hbd3, List.tail_drop] at ht3
  have HC4 := Lib.hid (HC3.out.num ht3 hg3)
  have HU3 := Lib.hid hu3
  have HO3 := Lib.hid ho3
  have HBD3 := Lib.hid hbd3
  clear hu3 ht3 hg3 ho3 hbd3 HN3 HC3
  have HN4 := Lib.hid (cf_num _ _ (ws.drop 4) bd3 (HHD.out 4) _ (HE.out.on HC4.out.be) HC4.out.tk HC4.out.bq)
  go_wp2_with (go_at_call 37; refine HN4.out.mono ?_)
  rintro e x4 ⟨z4, rfl, hu4, ht4, hg4⟩
  obtain ⟨o4, ho4⟩ : ∃ o, numO ((ws.drop 4).headD []) c53 = o := ⟨_, rfl⟩
  rw [ho4] at hu4 ht4
  obtain ⟨bd4, hbd4⟩ : ∃ x, (bd3 || o4.isNone) = x := ⟨_, rfl⟩
  rw [hbd4, List.tail_drop] at ht4
  have HC5 := Lib.hid (HC4.out.num ht4 hg4)
  have HU4 := Lib.hid hu4
  have HO4 := Lib.hid ho4
  have HBD4 := Lib.hid hbd4
  clear hu4 ht4 hg4 ho4 hbd4 HN4 HC4
  have HN5 := Lib.hid (cf_num _ _ (ws.drop 5) bd4 (HHD.out 5) _ (HE.out.on HC5.out.be) HC5.out.tk HC5.out.bq)
  go_wp2_with (go_at_call 37; refine HN5.out.mono ?_)
  rintro e x5 ⟨z5, rfl, hu5, ht5, hg5⟩
  obtain ⟨o5, ho5⟩ : ∃ o, numO ((ws.drop 5).headD []) c53 = o := ⟨_, rfl⟩
  rw [ho5] at hu5 ht5
  obtain ⟨bd5, hbd5⟩ : ∃ x, (bd4 || o5.isNone) = x := ⟨_, rfl⟩
  rw [hbd5, List.tail_drop] at ht5
  have HC6 := Lib.hid (HC5.out.num ht5 hg5)
  have HU5 := Lib.hid hu5
  have HO5 := Lib.hid ho5
  have HBD5 := Lib.hid hbd5
  clear hu5 ht5 hg5 ho5 hbd5 HN5 HC5
  obtain ⟨W6, hW6⟩ : ∃ W, x5.alloc (.cells #[.int .i64 z1, .int .i64 z2, .int .i64 z3, .int .i64 z4, .int .i64 z5] 23) = W := ⟨_, rfl⟩
  have hbx := bel_boxX x5 (.cells #[.int .i64 z1, .int .i64 z2, .int .i64 z3, .int .i64 z4, .int .i64 z5] 23)
  have hK : Blk W6 x5.heap.size 23 #[.int .i64 z1, .int .i64 z2, .int .i64 z3, .int .i64 z4, .int .i64 z5] := by rw [← hW6]; exact Blk.new _ _ _
  rw [hW6] at hbx
  have hC7 : CfS w W6 (ws.drop 6) bd5 := ⟨HC6.out.tk.grown hbx, HC6.out.bq.below hbx HC6.out.bq.lt, HC6.out.br.below hbx HC6.out.br.lt, HC6.out.be.trans (hbx.mono HC6.out.be.size)⟩
  have HK := Lib.hid hK
  have HC7 := Lib.hid hC7
  have HW6 := Lib.hid hW6
  have HPL : Hid (w.heap.size < x5.heap.size) := HC6.out.br.lt
  clear hK hC7 hW6 hbx HC6
  have HRT := Lib.hid (tk_right (w.heap.size + 2) (ws.drop 6) bd5 W6.drew HC7.out.tk)
  obtain ⟨rt, hrt⟩ : ∃ x, (!bd5 && (ws.drop 6).isEmpty) = x := ⟨_, rfl⟩
  rw [hrt] at HRT
  obtain ⟨ew, hew⟩ : ∃ x, decide (word = storeW) = x := ⟨_, rfl⟩
  have HCMP : Hid (((⟨word.toArray⟩ : ByteArray).toList == (⟨#[115, 116, 111, 114, 101]⟩ : ByteArray).toList) = ew) := by
    show _ = _
    rw [← hew]
    exact bs_beq word storeW
  have HEW := Lib.hid hew
  have HRB := Lib.hid hrt
  have hfin : cfgO ws = (if (rt && ew) = true then some ⟨z1, z2, z3, z4, z5⟩ else none) := by
    have q0 := HBD0.out
    have q1 := HBD1.out
    have q2 := HBD2.out
    have q3 := HBD3.out
    have q4 := HBD4.out
    have q5 := HBD5.out
    rw [cfgO_drop, HO1.out, HO2.out, HO3.out, HO4.out, HO5.out]
    have hb0 : bd0 = true → o1 = none := fun q => by
      rw [← q0] at q
      have : ws = [] := by simpa using q
      rw [← HO1.out, this]
      exact numO_nil c53
    rw [← hrt, ← q5, ← q4, ← q3, ← q2, ← q1, ← hew]
    cases ho1 : o1 with
    | none => simp
    | some u1 =>
      have hbf : bd0 = false := by
        cases q : bd0 with
        | false => rfl
        | true => rw [hb0 q] at ho1; cases ho1
      rw [hbf]
      cases ho2 : o2 with
      | none => simp
      | some u2 =>
        cases ho3 : o3 with
        | none => simp
        | some u3 =>
          cases ho4 : o4 with
          | none => simp
          | some u4 =>
            cases ho5 : o5 with
            | none => simp
            | some u5 =>
              rw [HU1.out u1 ho1, HU2.out u2 ho2, HU3.out u3 ho3, HU4.out u4 ho4, HU5.out u5 ho5, HWD.out]
              by_cases h6 : ws.drop 6 = []
              · by_cases hw : word = storeW <;> simp [h6, hw]
              · have : (ws.drop 6).isEmpty = false := by cases q : ws.drop 6 with | nil => exact absurd q h6 | cons => rfl
                simp [h6, this]
  have HFIN := Lib.hid hfin
  have HRES : Hid (∀ W, Below W6.heap.size W6.drew W → Blk W w.heap.size 23 #[.int .i64 z1, .int .i64 z2, .int .i64 z3, .int .i64 z4, .int .i64 z5] → True) := fun _ _ _ => trivial
  clear hrt hew hfin HRES
  cases rt with
  | false =>
    go_wp2_with fail
    rw [HW6.out]
    clear HW6
    refine wp_region_held_drew (S := fun W => Blk W x5.heap.size 23 #[.int .i64 z1, .int .i64 z2, .int .i64 z3, .int .i64 z4, .int .i64 z5] ∧ Blk W (w.heap.size + 3) 80 #[.pointer (some ⟨w.heap.size + 2, 0, none⟩)]) (by kernel_rfl) ⟨HK.out, HC7.out.bq⟩ (fun hH => ?_)
    refine wpAnyH_take (i := 0) (v := .agg #[.int .i64 z1, .int .i64 z2, .int .i64 z3, .int .i64 z4, .int .i64 z5]) rfl (by kernel_rfl) (by kernel_rfl) (by kernel_rfl) (fun _ _ _ h => h) (yieldsIf_loadP (by rfl) _ rfl rfl (fun _ q => loadF_cfg q.1 rfl)) hH ?_
    (try simp only [List.getElem_toArray, List.getElem_cons_zero, Act.put, List.setIfInBounds_toArray, List.set_cons_zero, List.set_cons_succ])
    refine wpAnyH_take (i := 1) (v := .pointer (some ⟨(w.heap.size + 1 + 1), 0, none⟩)) rfl (by kernel_rfl) (by kernel_rfl) (by kernel_rfl) (fun _ _ _ h => h) (yieldsIf_loadP (by rfl) _ rfl rfl (fun _ q => loadF_ptr (q.2 : Blk _ (w.heap.size + 3) _ _))) hH ?_
    (try simp only [List.getElem_toArray, List.getElem_cons_zero, List.getElem_cons_succ, Act.put, List.setIfInBounds_toArray, List.set_cons_zero, List.set_cons_succ])
    refine wpAnyH_call 2 39 #[.pointer (some ⟨w.heap.size + 2, 0, none⟩)] _ (by kernel_rfl) (by rfl) (by kernel_rfl) (by kernel_rfl) HRT.out ?_
    rintro e w' ⟨rfl, hw'⟩
    subst hw'
    refine ⟨_, rfl, hH, ?_⟩
    (try simp only [List.getElem_toArray, List.getElem_cons_zero, List.getElem_cons_succ, Act.put, List.setIfInBounds_toArray, List.set_cons_zero, List.set_cons_succ])
    refine wpAnyH_take (i := 3) (v := .bool false) rfl (by kernel_rfl) (by kernel_rfl) (by kernel_rfl) (fun _ _ _ h => h) (.inl ⟨by rfl, fun _ _ => by kernel_rfl⟩) hH ?_
    (try simp only [List.getElem_toArray, List.getElem_cons_zero, List.getElem_cons_succ, Act.put, List.setIfInBounds_toArray, List.set_cons_zero, List.set_cons_succ])
    refine wpAnyH_take (i := 4) (v := undef) rfl (by kernel_rfl) (by kernel_rfl) (by kernel_rfl) (fun _ _ _ h => h) (.inr ⟨by rfl, rfl⟩) hH ?_
    (try simp only [List.getElem_toArray, List.getElem_cons_zero, List.getElem_cons_succ, Act.put, List.setIfInBounds_toArray, List.set_cons_zero, List.set_cons_succ])
    refine wpAnyH_take (i := 5) (v := undef) rfl (by kernel_rfl) (by kernel_rfl) (by kernel_rfl) (fun _ _ _ h => h) (.inr ⟨by rfl, rfl⟩) hH ?_
    (try simp only [List.getElem_toArray, List.getElem_cons_zero, List.getElem_cons_succ, Act.put, List.setIfInBounds_toArray, List.set_cons_zero, List.set_cons_succ])
    refine wpAnyH_take (i := 6) (v := .bool false) rfl (by kernel_rfl) (by kernel_rfl) (by kernel_rfl) (fun _ _ _ h => h) (.inl ⟨by rfl, fun _ _ => by kernel_rfl⟩) hH ?_
    (try simp only [List.getElem_toArray, List.getElem_cons_zero, List.getElem_cons_succ, Act.put, List.setIfInBounds_toArray, List.set_cons_zero, List.set_cons_succ])
    obtain ⟨W8, hst, hb8, hg8⟩ := stF_cfg (W := W6.drew) (a := z1) (b := z2) (c := z3) (d := z4) (e := z5) HC7.out.br rfl
    have hS8 : Blk W8 x5.heap.size 23 #[.int .i64 z1, .int .i64 z2, .int .i64 z3, .int .i64 z4, .int .i64 z5] ∧ Blk W8 (w.heap.size + 3) 80 #[.pointer (some ⟨w.heap.size + 2, 0, none⟩)] := ⟨hH.1.grown hg8 (fun e => by injection e with e; have := HPL.out; omega), hH.2.grown hg8 (fun e => by injection e with e; omega)⟩
    refine wpAnyH_store 7 _ _ _ (by kernel_rfl) (by rfl) (by kernel_rfl) (by rfl) (by rfl) (by rfl) hst hS8 ?_
    (try simp only [List.getElem_toArray, List.getElem_cons_zero, List.getElem_cons_succ, Act.put])
    have hbel : Below w.heap.size w W8 := (below_drewN HC7.out.be 1).trans (below_of_only (a := W6.drew) hg8 HC7.out.be.size (Nat.le_refl _))
    have HB8 := Lib.hid hb8
    have HBEL := Lib.hid hbel
    clear hst hb8 hg8 hbel
    refine wpAnyH_value 8 (.bool false) (by kernel_rfl) (by rfl) (by kernel_rfl) (by kernel_rfl) hS8 ?_
    (try simp only [List.getElem_toArray, List.getElem_cons_zero, List.getElem_cons_succ, Act.put, List.setIfInBounds_toArray, List.set_cons_zero, List.set_cons_succ])
    refine wpAnyH_done (by kernel_rfl) ?_ _
    go_wp2_with fail
    refine bodyPost_ret (v := .tuple #[.agg #[.int .i64 z1, .int .i64 z2, .int .i64 z3, .int .i64 z4, .int .i64 z5], .bool false]) (results_row11F (P := Tryd.prog) Tryd.results27 _ rfl HB8.out Tryd.underlying23 rfl (by kernel_rfl)) rfl ?_
    rw [HR.out]
    have hno : cfgO (splitW l) = none := by rw [HWS.out, HFIN.out]; rfl
    refine ⟨⟨z1, z2, z3, z4, z5⟩, by rw [hno]; rfl, fun d hd => (by rw [hno] at hd; cases hd), HBEL.out⟩
  | true =>
    go_wp2_with fail
    rw [HW6.out]
    clear HW6
    refine wp_region_held_drew (S := fun W => Blk W x5.heap.size 23 #[.int .i64 z1, .int .i64 z2, .int .i64 z3, .int .i64 z4, .int .i64 z5] ∧ Blk W (w.heap.size + 3) 80 #[.pointer (some ⟨w.heap.size + 2, 0, none⟩)]) (by kernel_rfl) ⟨HK.out, HC7.out.bq⟩ (fun hH => ?_)
    refine wpAnyH_take (i := 0) (v := .agg #[.int .i64 z1, .int .i64 z2, .int .i64 z3, .int .i64 z4, .int .i64 z5]) rfl (by kernel_rfl) (by kernel_rfl) (by kernel_rfl) (fun _ _ _ h => h) (yieldsIf_loadP (by rfl) _ rfl rfl (fun _ q => loadF_cfg q.1 rfl)) hH ?_
    (try simp only [List.getElem_toArray, List.getElem_cons_zero, Act.put, List.setIfInBounds_toArray, List.set_cons_zero, List.set_cons_succ])
    refine wpAnyH_take (i := 1) (v := .pointer (some ⟨(w.heap.size + 1 + 1), 0, none⟩)) rfl (by kernel_rfl) (by kernel_rfl) (by kernel_rfl) (fun _ _ _ h => h) (yieldsIf_loadP (by rfl) _ rfl rfl (fun _ q => loadF_ptr (q.2 : Blk _ (w.heap.size + 3) _ _))) hH ?_
    (try simp only [List.getElem_toArray, List.getElem_cons_zero, List.getElem_cons_succ, Act.put, List.setIfInBounds_toArray, List.set_cons_zero, List.set_cons_succ])
    refine wpAnyH_call 2 39 #[.pointer (some ⟨w.heap.size + 2, 0, none⟩)] _ (by kernel_rfl) (by rfl) (by kernel_rfl) (by kernel_rfl) HRT.out ?_
    rintro e w' ⟨rfl, hw'⟩
    subst hw'
    refine ⟨_, rfl, hH, ?_⟩
    (try simp only [List.getElem_toArray, List.getElem_cons_zero, List.getElem_cons_succ, Act.put, List.setIfInBounds_toArray, List.set_cons_zero, List.set_cons_succ])
    refine wpAnyH_take (i := 3) (v := .bool true) rfl (by kernel_rfl) (by kernel_rfl) (by kernel_rfl) (fun _ _ _ h => h) (.inl ⟨by rfl, fun _ _ => by kernel_rfl⟩) hH ?_
    (try simp only [List.getElem_toArray, List.getElem_cons_zero, List.getElem_cons_succ, Act.put, List.setIfInBounds_toArray, List.set_cons_zero, List.set_cons_succ])
    refine wpAnyH_take (i := 4) (v := .string ⟨word.toArray⟩) rfl (by kernel_rfl) (by kernel_rfl) (by kernel_rfl) (fun _ _ _ h => h) (.inl ⟨by rfl, fun _ _ => by kernel_rfl⟩) hH ?_
    (try simp only [List.getElem_toArray, List.getElem_cons_zero, List.getElem_cons_succ, Act.put, List.setIfInBounds_toArray, List.set_cons_zero, List.set_cons_succ])
    refine wpAnyH_take (i := 5) (v := .bool ew) rfl (by kernel_rfl) (by kernel_rfl) (by kernel_rfl) (fun _ _ _ h => h) (yieldsIf_eqS (by rfl) rfl rfl rfl HCMP.out) hH ?_
    (try simp only [List.getElem_toArray, List.getElem_cons_zero, List.getElem_cons_succ, Act.put, List.setIfInBounds_toArray, List.set_cons_zero, List.set_cons_succ])
    refine wpAnyH_take (i := 6) (v := .bool ew) rfl (by kernel_rfl) (by kernel_rfl) (by kernel_rfl) (fun _ _ _ h => h) (.inl ⟨by rfl, fun _ _ => by kernel_rfl⟩) hH ?_
    (try simp only [List.getElem_toArray, List.getElem_cons_zero, List.getElem_cons_succ, Act.put, List.setIfInBounds_toArray, List.set_cons_zero, List.set_cons_succ])
    obtain ⟨W8, hst, hb8, hg8⟩ := stF_cfg (W := W6.drew) (a := z1) (b := z2) (c := z3) (d := z4) (e := z5) HC7.out.br rfl
    have hS8 : Blk W8 x5.heap.size 23 #[.int .i64 z1, .int .i64 z2, .int .i64 z3, .int .i64 z4, .int .i64 z5] ∧ Blk W8 (w.heap.size + 3) 80 #[.pointer (some ⟨w.heap.size + 2, 0, none⟩)] := ⟨hH.1.grown hg8 (fun e => by injection e with e; have := HPL.out; omega), hH.2.grown hg8 (fun e => by injection e with e; omega)⟩
    refine wpAnyH_store 7 _ _ _ (by kernel_rfl) (by rfl) (by kernel_rfl) (by rfl) (by rfl) (by rfl) hst hS8 ?_
    (try simp only [List.getElem_toArray, List.getElem_cons_zero, List.getElem_cons_succ, Act.put])
    have hbel : Below w.heap.size w W8 := (below_drewN HC7.out.be 1).trans (below_of_only (a := W6.drew) hg8 HC7.out.be.size (Nat.le_refl _))
    have HB8 := Lib.hid hb8
    have HBEL := Lib.hid hbel
    clear hst hb8 hg8 hbel
    refine wpAnyH_value 8 (.bool ew) (by kernel_rfl) (by rfl) (by kernel_rfl) (by kernel_rfl) hS8 ?_
    (try simp only [List.getElem_toArray, List.getElem_cons_zero, List.getElem_cons_succ, Act.put, List.setIfInBounds_toArray, List.set_cons_zero, List.set_cons_succ])
    refine wpAnyH_done (by kernel_rfl) ?_ _
    go_wp2_with fail
    refine bodyPost_ret (v := .tuple #[.agg #[.int .i64 z1, .int .i64 z2, .int .i64 z3, .int .i64 z4, .int .i64 z5], .bool ew]) (results_row11F (P := Tryd.prog) Tryd.results27 _ rfl HB8.out Tryd.underlying23 rfl (by kernel_rfl)) rfl ?_
    rw [HR.out]
    cases ew with
    | false =>
      have hno : cfgO (splitW l) = none := by rw [HWS.out, HFIN.out]; rfl
      exact ⟨⟨z1, z2, z3, z4, z5⟩, by rw [hno]; rfl, fun d hd => (by rw [hno] at hd; cases hd), HBEL.out⟩
    | true =>
      have hyes : cfgO (splitW l) = some ⟨z1, z2, z3, z4, z5⟩ := by rw [HWS.out, HFIN.out]; rfl
      exact ⟨⟨z1, z2, z3, z4, z5⟩, by rw [hyes]; rfl, fun d hd => (by rw [hyes] at hd; injection hd), HBEL.out⟩
end Go.Proofs.YtillmlaoppibfaaDoor
