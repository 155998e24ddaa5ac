/- Scripts: the reader of lines. -/
import Derived.Test.YtillmlaoppibfaaDoorScA
import Derived.Test.YtillmlaoppibfaaDoorScF
namespace Go.Proofs.YtillmlaoppibfaaDoor
open Go.RowKit Go.Sort
/-- Acts of the call's own. -/
def PaS (w : World) (B : Nat) (v : Value) (l : List SAct) : Prop :=
  ∃ css : List (List Value), w.ownsRow B 40 8 v l.length css.flatten ∧ css.length = l.length ∧
    ∀ (i : Nat) (a : SAct), l[i]? = some a → ∃ V vn vc, css[i]? = some (actC a V vn vc) ∧ VecT w V vn vc a.vec ∧ vn ≤ 1048576 ∧ a.Rng
theorem PaS.nil_ (w : World) (B : Nat) : PaS w B (.slice none 0 0) [] := ⟨[], World.ownsRow_nil _ _ _ _, rfl, fun i a h => by simp at h⟩
theorem VecT.below {w w' : World} {V : Option Addr} {n c : Nat} {zs : List Int} (h : VecT w V n c zs) (hb : Below w.heap.size w w') : VecT w' V n c zs := ⟨own_keepS h.1 hb, h.2⟩
theorem PaS.below {w w' : World} {B : Nat} {v : Value} {l : List SAct} (h : PaS w B v l) (hb : Below w.heap.size w w') : PaS w' B v l := by
  obtain ⟨css, h1, h2, h3⟩ := h
  refine ⟨css, own_keepS h1 hb, h2, fun i a hi => ?_⟩
  obtain ⟨V, vn, vc, k1, k2, k3⟩ := h3 i a hi
  exact ⟨V, vn, vc, k1, k2.below hb, k3⟩
theorem own_typeI {w w' : World} {base e sz n r t : Nat} {v : Value} {xs : List Value} {cs : Array Value} (h : w.ownsRow base e sz v n xs) (hk : Blk w r t cs) (hne : t ≠ e) (hg : w.grownBy w' (some r)) : w'.ownsRow base e sz v n xs := by
  refine h.kept hg ?_
  rcases h.2 with ⟨e', _⟩ | ⟨g, cap, cur, e', hge, hh, _⟩
  · exact .inl (by rw [e']; rfl)
  · refine .inr fun ej => ?_
    rw [e'] at ej
    have hgr : g = r := by simpa [Value.ownBlock] using ej
    subst hgr
    have hk' : w.heap[g]? = some (.cells cs t (0, 0)) := hk
    rw [hk'] at hh
    injection hh with hh
    injection hh with _ q _
    exact hne q
theorem own_rowI {w w' : World} {base base' e e' sz sz' n n' : Nat} {v v' : Value} {xs xs' : List Value} (h : w.ownsRow base e sz v n xs) (h' : w.ownsRow base' e' sz' v' n' xs') (hne : e' ≠ e) (hg : w.grownBy w' v'.ownBlock) : w'.ownsRow base e sz v n xs := by
  rcases h'.2 with ⟨q, _⟩ | ⟨g, cap, cur, q, hge, hh, _⟩
  · rw [q] at hg
    exact h.kept (show w.grownBy w' none from hg) (by cases v.ownBlock <;> simp)
  · rw [q] at hg
    exact own_typeI h (show Blk w g e' cur from hh) hne (show w.grownBy w' (some g) from hg)
theorem PaS.other {w w' : World} {B r t : Nat} {v : Value} {l : List SAct} {cs : Array Value} (h : PaS w B v l) (hk : Blk w r t cs) (h1 : t ≠ 40) (h2 : t ≠ 21) (hg : w.grownBy w' (some r)) : PaS w' B v l := by
  obtain ⟨css, k1, k2, k3⟩ := h
  refine ⟨css, own_typeI k1 hk h1 hg, k2, fun i a hi => ?_⟩
  obtain ⟨V, vn, vc, j1, j2, j3⟩ := k3 i a hi
  exact ⟨V, vn, vc, j1, ⟨own_typeI j2.1 hk h2 hg, j2.2⟩, j3⟩
/-- More of them. -/
theorem PaS.push {w w' : World} {B g cap n : Nat} {v : Value} {l : List SAct} {a : SAct} {V : Option Addr} {vn vc : Nat} {css : List (List Value)} (k1 : w.ownsRow B 40 8 v l.length css.flatten) (k2 : css.length = l.length)
    (k3 : ∀ (i : Nat) (a : SAct), l[i]? = some a → ∃ V vn vc, css[i]? = some (actC a V vn vc) ∧ VecT w V vn vc a.vec ∧ vn ≤ 1048576 ∧ a.Rng) (hv : VecT w V vn vc a.vec) (hvn : vn ≤ 1048576) (hr : a.Rng)
    (hg : w.grownBy w' v.ownBlock) (ho : w'.ownsRow B 40 8 (.slice (some ⟨g, 0, none⟩) (l.length + n) cap) (l.length + n) (css.flatten ++ (List.replicate n (actC a V vn vc)).flatten)) :
    PaS w' B (.slice (some ⟨g, 0, none⟩) (l.length + n) cap) (l ++ List.replicate n a) := by
  have hl : (l ++ List.replicate n a).length = l.length + n := by rw [List.length_append, List.length_replicate]
  refine ⟨css ++ List.replicate n (actC a V vn vc), ?_, by rw [List.length_append, List.length_replicate, k2, hl], fun i b hi => ?_⟩
  · rw [hl, List.flatten_append]
    exact ho
  · rcases Nat.lt_or_ge i l.length with q | q
    · rw [List.getElem?_append_left q] at hi
      obtain ⟨V', vn', vc', j1, j2, j3⟩ := k3 i b hi
      refine ⟨V', vn', vc', by rw [List.getElem?_append_left (by rw [k2]; exact q)]; exact j1, ⟨own_rowI j2.1 k1 (by decide) hg, j2.2⟩, j3⟩
    · rw [List.getElem?_append_right q, List.getElem?_replicate] at hi
      split at hi
      · rename_i q2
        injection hi with hi
        subst hi
        refine ⟨V, vn, vc, by rw [List.getElem?_append_right (by rw [k2]; exact q), List.getElem?_replicate, if_pos (by rw [k2]; exact q2)], ⟨own_rowI hv.1 k1 (by decide) hg, hv.2⟩, hvn, hr⟩
      · cases hi
theorem blk_rowI {w w' : World} {base e sz n r t : Nat} {v : Value} {xs : List Value} {cs : Array Value} (hk : Blk w r t cs) (h : w.ownsRow base e sz v n xs) (hne : t ≠ e) (hg : w.grownBy w' v.ownBlock) : Blk w' r t cs := by
  refine hk.grown hg ?_
  rcases h.2 with ⟨e', _⟩ | ⟨g, cap, cur, e', hge, hh, _⟩
  · rw [e']; simp [Value.ownBlock]
  · rw [e']
    intro ej
    have hgr : r = g := by simpa [Value.ownBlock] using ej
    subst hgr
    have hk' : w.heap[r]? = some (.cells cs t (0, 0)) := hk
    rw [hk'] at hh
    injection hh with hh
    injection hh with _ q _
    exact hne q
theorem stZ_acts {g i : Nat} {A : Option Addr} {n m : Nat} {c : Value} (W : World) (h1 : W.frozen? ⟨g, i, none⟩ = false) (h2 : W.cell? ⟨g, i, none⟩ = some c) : (Instr.storeAt 24 (.pointer (some ⟨g, i, none⟩)) (.slice A n m)).run Tryd.prog W = .ok () (W.setCell ⟨g, i, none⟩ (.slice A n m)) := by
  simp [go_sem, h1, h2]
theorem vec_words {ws : List (List UInt8)} {g : SAct × Nat} (h : actsO ws = some g) : g.1.vec.length ≤ ws.length := by
  have hw := (words_acts h).2
  have hG := (words_acts h).1
  rw [← hw]
  obtain ⟨_, _, _, hG⟩ := hG
  rcases hG with ⟨q, _⟩ | ⟨_, q⟩
  · rw [q]; exact Nat.zero_le _
  · simp only [formB, decide_eq_true_eq] at q
    rcases q with q | q | q | q
    · unfold wordsOf; rw [if_pos q.1]; simp; omega
    · unfold wordsOf; rw [if_neg (by omega), if_pos q.1]; simp; omega
    · rw [q.2.1]; exact Nat.zero_le _
    · rw [q.2.2.1]; exact Nat.zero_le _
/-- The worker of a line of picks; else -1. -/
def pkOf (a : SAct) : Int := if a.kd = 0 then a.wk else -1
/-- A reader in block r. -/
structure RdR (w : World) (B r : Nat) (c : SCfg) (v : Value) (pk : Int) (l : List SAct) : Prop where
  bl : Blk w r 56 #[.int .i64 c.dim, .int .i64 c.cap, .int .i64 c.links, .int .i64 c.ef, .int .i64 c.wks, v, .int .i64 pk]
  pa : PaS w B v l
  br : B ≤ r
theorem RdR.below {w w' : World} {B r : Nat} {c : SCfg} {v : Value} {pk : Int} {l : List SAct} (h : RdR w B r c v pk l) (hb : Below w.heap.size w w') : RdR w' B r c v pk l := ⟨h.bl.below hb h.bl.lt, h.pa.below hb, h.br⟩
theorem stI_cfg {W : World} {g : Nat} {v0 v1 v2 v3 v4 v5 v6 : Value} {a b c d e : Int} (h : Blk W g 56 #[v0, v1, v2, v3, v4, v5, v6]) :
    ∃ W', (Instr.storeAt 23 (.pointer (some ⟨g, 0, none⟩)) (.agg #[.int .i64 a, .int .i64 b, .int .i64 c, .int .i64 d, .int .i64 e])).run Tryd.prog W = .ok () W' ∧ Blk W' g 56 #[.int .i64 a, .int .i64 b, .int .i64 c, .int .i64 d, .int .i64 e, v5, v6] ∧ W.grownBy W' (some g) :=
  ⟨_, row_store_mid h 0 #[.int .i64 a, .int .i64 b, .int .i64 c, .int .i64 d, .int .i64 e] (show 0 + 5 ≤ 7 by omega) (by kernel_rfl) (by simp [Value.oneCell']), ((((h.set_ 0 _).set_ 1 _).set_ 2 _).set_ 3 _).set_ 4 _, only_setCells (World.grownBy.refl W _) _ _⟩
set_option maxHeartbeats 4000000 in
set_option maxRecDepth 100000 in
/-- The first line. -/
theorem rd_first (B r : Nat) (c : SCfg) (v : Value) (pk : Int) (l : List SAct) (s : List UInt8) (hl : s.length ≤ 65536) (w : World) (he : Env w) (h : RdR w B r c v pk l) (hBw : B ≤ w.heap.size) :
    Calls Tryd.prog 16 #[.pointer (some ⟨r, 0, none⟩), .int .i64 1, .string ⟨s.toArray⟩] w fun e w' => Below B w w' ∧ e = .returned (.int .i64 (match cfgO (splitW s) with | none => 12 | some d => if chkB d then 0 else 1)) ∧ ∀ d, cfgO (splitW s) = some d → RdR w' B r d v pk l := by
  obtain ⟨R, hR⟩ : ∃ R : Ending → World → Prop, R = fun e w' => Below B w w' ∧ e = .returned (.int .i64 (match cfgO (splitW s) with | none => 12 | some d => if chkB d then 0 else 1)) ∧ ∀ d, cfgO (splitW s) = some d → RdR w' B r d v pk l := ⟨_, rfl⟩
  rw [← hR]
  have HR := Lib.hid hR
  have HC := Lib.hid (sc_config s hl w he)
  have H := Lib.hid h
  clear hR h he
  go_enter Tryd.func16, Tryd.ntmps16
  go_wp2_with (go_at_call 27; refine HC.out.mono ?_)
  rintro e w1 ⟨d, rfl, hd, hb⟩
  have H1 := Lib.hid (H.out.below hb)
  have HB1 := Lib.hid (hb.mono hBw)
  have hsz1 : B ≤ w1.heap.size := Nat.le_trans hBw hb.size
  obtain ⟨W2, hW2⟩ : ∃ W, w1.alloc (.cells #[.int .i64 d.dim, .int .i64 d.cap, .int .i64 d.links, .int .i64 d.ef, .int .i64 d.wks] 23) = W := ⟨_, rfl⟩
  have hbx := bel_boxX w1 (.cells #[.int .i64 d.dim, .int .i64 d.cap, .int .i64 d.links, .int .i64 d.ef, .int .i64 d.wks] 23)
  have hK : Blk W2 w1.heap.size 23 #[.int .i64 d.dim, .int .i64 d.cap, .int .i64 d.links, .int .i64 d.ef, .int .i64 d.wks] := by rw [← hW2]; exact Blk.new _ _ _
  rw [hW2] at hbx
  have H2 := Lib.hid (H1.out.below hbx)
  have hrne : r ≠ w1.heap.size := fun e => by have := H1.out.bl.lt; omega
  obtain ⟨W3, hst, hb3, hg3⟩ := stI_cfg (a := d.dim) (b := d.cap) (c := d.links) (d := d.ef) (e := d.wks) H2.out.bl
  have H3 : Hid (RdR W3 B r d v pk l) := ⟨hb3, H2.out.pa.other H2.out.bl (by decide) (by decide) hg3, H2.out.br⟩
  have HB3 : Hid (Below B w W3) := HB1.out.trans ((hbx.mono hsz1).trans (below_of_only hg3 (Nat.le_trans hsz1 hbx.size) H2.out.br))
  have hK3 : Blk W3 w1.heap.size 23 #[.int .i64 d.dim, .int .i64 d.cap, .int .i64 d.links, .int .i64 d.ef, .int .i64 d.wks] := hK.grown hg3 (fun e => by injection e with e; exact hrne e.symm)
  have L2 : (Instr.loadAt 23 (.pointer (some ⟨w1.heap.size, 0, none⟩))).run Tryd.prog W2 = .ok (.agg #[.int .i64 d.dim, .int .i64 d.cap, .int .i64 d.links, .int .i64 d.ef, .int .i64 d.wks]) W2 := loadF_cfg hK rfl
  have L3 : (Instr.loadAt 23 (.pointer (some ⟨w1.heap.size, 0, none⟩))).run Tryd.prog W3 = .ok (.agg #[.int .i64 d.dim, .int .i64 d.cap, .int .i64 d.links, .int .i64 d.ef, .int .i64 d.wks]) W3 := loadF_cfg hK3 rfl
  obtain ⟨z, hz⟩ : ∃ z : Int, (if chkB d = true then (0 : Int) else 1) = z := ⟨_, rfl⟩
  have HCK : Hid (Calls Tryd.prog 8 #[d.v] W3 fun e w' => e = .returned (.int .i64 z) ∧ Below W3.heap.size W3 w') := by
    rw [← hz]
    exact mem_check d W3
  have HZ := Lib.hid hz
  clear hz
  have HB2 := Lib.hid (HB1.out.trans (hbx.mono hsz1))
  have HD := Lib.hid hd
  have HW2 := Lib.hid hW2
  have HSZ3 : Hid (B ≤ W3.heap.size) := Nat.le_trans hBw HB3.out.size
  obtain ⟨o, ho⟩ : ∃ o, cfgO (splitW s) = o := ⟨_, rfl⟩
  rw [ho] at HD
  have HO := Lib.hid ho
  rw [ho]
  unfold SCfg.v at HCK ⊢
  clear hb hd hW2 hbx hK hrne hb3 hg3 hK3 ho HC H H1 HB1 H2 hsz1
  cases o with
  | none =>
    go_wp2_with fail
    clear hst L2 L3 HCK H3
    rw [HW2.out]
    go_wp2
    rw [HR.out]
    rw [HO.out]
    exact ⟨HB2.out, rfl, fun d hd => by cases hd⟩
  | some d' =>
    have hdd := HD.out d' rfl
    subst hdd
    go_upto_region 3 with fail
    rw [HW2.out]
    clear HW2
    go_wp2_with (first
      | refine wpList_loadE L2 _ rfl rfl rfl ?_
      | refine wpList_loadE L3 _ rfl rfl rfl ?_
      | refine wpList_storeE hst _ _ rfl rfl rfl rfl ?_
      | (go_at_call 8; refine HCK.out.mono ?_))
    rintro e w4 ⟨rfl, hb4⟩
    have H4 := Lib.hid (H3.out.below hb4)
    have HB4 := Lib.hid (HB3.out.trans (hb4.mono HSZ3.out))
    clear hb4 hst L2 L3
    go_wp2
    rw [HR.out]
    rw [HO.out]
    refine ⟨HB4.out, by rw [← HZ.out]; rfl, fun e he => by injection he with he; rw [← he]; exact H4.out⟩
theorem info_actI : (Tryd.prog.info? 40).map (fun i => (i.zero, i.size, i.bytes)) = some (some (.agg #[.int .i64 0, .int .i64 0, .int .u64 0, .slice none 0 0, .int .u64 0, .int .i64 0, .int .i64 0, .int .u64 0]), 8, 80) := info_actR
theorem flat_one {n : Nat} {a : SAct} {V : Option Addr} {vn vc : Nat} : ∀ u ∈ (List.replicate n (actC a V vn vc)).flatten, u.oneCell' = true := fun u hu => by
  obtain ⟨c, hc, hu⟩ := List.mem_flatten.1 hu
  rw [(List.mem_replicate.1 hc).2] at hu
  unfold actC callC at hu
  simp only [List.mem_cons, List.not_mem_nil, or_false] at hu
  rcases hu with rfl | rfl | rfl | rfl | rfl | rfl | rfl | rfl <;> rfl
theorem flat_size {n : Nat} {a : SAct} {V : Option Addr} {vn vc : Nat} : (List.replicate n (actC a V vn vc)).flatten.length = n * 8 := by
  have := flat_len (sz := 8) (List.replicate n (actC a V vn vc)) (fun c hc => by rw [(List.mem_replicate.1 hc).2]; rfl)
  rw [this, List.length_replicate]
set_option maxHeartbeats 8000000 in
set_option maxRecDepth 100000 in
/-- A further line. -/
theorem rd_next (B r : Nat) (c : SCfg) (v : Value) (pk : Int) (l : List SAct) (s : List UInt8) (hl : s.length ≤ 65536) (no : Nat) (hno : 2 ≤ no) (w : World) (he : Env w) (h : RdR w B r c v pk l) (hBw : B ≤ w.heap.size) (hln : l.length ≤ 4096) :
    Calls Tryd.prog 16 #[.pointer (some ⟨r, 0, none⟩), .int .i64 (no : Nat), .string ⟨s.toArray⟩] w fun e w' => Below B w w' ∧
      match actsO (splitW s) with
      | none => e = .returned (.int .i64 12)
      | some (a, n) => if 0 ≤ pkOf a ∧ pkOf a = pk then e = .returned (.int .i64 11) else if 4096 < l.length + n then e = .returned (.int .i64 9) else e = .returned (.int .i64 0) ∧ ∃ v', RdR w' B r c v' (pkOf a) (l ++ List.replicate n a) := by
  obtain ⟨R, hR⟩ : ∃ R : Ending → World → Prop, R = fun e w' => Below B w w' ∧
      match actsO (splitW s) with
      | none => e = .returned (.int .i64 12)
      | some (a, n) => if 0 ≤ pkOf a ∧ pkOf a = pk then e = .returned (.int .i64 11) else if 4096 < l.length + n then e = .returned (.int .i64 9) else e = .returned (.int .i64 0) ∧ ∃ v', RdR w' B r c v' (pkOf a) (l ++ List.replicate n a) := ⟨_, rfl⟩
  rw [← hR]
  have HR := Lib.hid hR
  have HA := Lib.hid (sc_acts s hl w he)
  have H := Lib.hid h
  have hn1 : ((no : Int) == 1) = false := by rw [beq_eq_false_iff_ne]; omega
  obtain ⟨o, ho⟩ : ∃ o, actsO (splitW s) = o := ⟨_, rfl⟩
  rw [ho] at HA
  have HO := Lib.hid ho
  clear hR h he ho
  cases o with
  | none =>
    have HA : Hid (Calls Tryd.prog 28 #[.string ⟨s.toArray⟩] w fun e w' => e = .returned (.slice none 0 0) ∧ Below w.heap.size w w') := HA.out.mono fun e w' ⟨q1, q2⟩ => ⟨q2, q1⟩
    go_enter Tryd.func16, Tryd.ntmps16
    go_wp2_with (go_at_call 28; refine HA.out.mono ?_)
    rintro e w1 rfl hb
    have HB := Lib.hid (hb.mono hBw)
    clear hb HA
    go_wp2
    rw [HR.out, HO.out]
    exact ⟨HB.out, rfl⟩
  | some g =>
    obtain ⟨a, n⟩ := g
    have HA : Hid (Calls Tryd.prog 28 #[.string ⟨s.toArray⟩] w fun e w' => ∃ q V vn vc, e = .returned (.slice (some ⟨q, 0, none⟩) n n) ∧ w.heap.size ≤ q ∧ Blk w' q 40 (List.replicate n (actC a V vn vc)).flatten.toArray ∧ VecT w' V vn vc a.vec ∧ Below w.heap.size w w') := HA.out.mono fun e w' ⟨q1, q, V, vn, vc, q2, q3, q4, q5⟩ => ⟨q, V, vn, vc, q2, q3, q4, q5, q1⟩
    have hwd := words_acts HO.out
    have hvl := vec_words HO.out
    have hn : 1 ≤ n ∧ n ≤ 4096 := by
      rcases hwd.1.2.2.2 with ⟨_, q⟩ | ⟨q, _⟩
      · exact q
      · have q' : n = 1 := q
        omega
    have HG : Hid (a.Rng) := hwd.1.2.2.1
    have hspl := splitW_len s
    have HVL : Hid (a.vec.length ≤ 65537) := by show _ ≤ _; have q : a.vec.length ≤ (splitW s).length := hvl; omega
    have HWK : Hid (0 ≤ a.wk ∧ a.wk ≤ 64) := ⟨hwd.1.1, hwd.1.2.1⟩
    clear hwd hvl hspl
    go_enter Tryd.func16, Tryd.ntmps16
    go_wp2_with (go_at_call 28; refine HA.out.mono ?_)
    rintro e w1 q rfl hq V vn vc hbk hvt hb
    have HB := Lib.hid (hb.mono hBw)
    have H1 := Lib.hid (H.out.below hb)
    have hfl := fun j (hj : j < 8) => flat_get (sz := 8) (List.replicate n (actC a V vn vc)) (fun c hc => by rw [(List.mem_replicate.1 hc).2]; rfl) 0 j (actC a V vn vc) (by rw [List.getElem?_replicate, if_pos (by omega)]) hj
    have c0 : w1.cell? ⟨q, 0, none⟩ = some (.int .i64 a.wk) := by rw [hbk.cell, List.getElem?_toArray]; have := hfl 0 (by omega); rw [Nat.zero_mul, Nat.zero_add] at this; rw [this]; rfl
    have c1 : w1.cell? ⟨q, 1, none⟩ = some (.int .i64 a.kd) := by rw [hbk.cell, List.getElem?_toArray]; have := hfl 1 (by omega); rw [Nat.zero_mul, Nat.zero_add] at this; rw [this]; rfl
    have c5 : w1.cell? ⟨r, 5, none⟩ = some v := H1.out.bl.cell 5
    have c6 : w1.cell? ⟨r, 6, none⟩ = some (.int .i64 pk) := H1.out.bl.cell 6
    obtain ⟨SA, SC, hv⟩ : ∃ SA SC, v = .slice SA l.length SC := by
      obtain ⟨css, k1, _⟩ := H1.out.pa
      rcases k1.2 with ⟨e, e0⟩ | ⟨g, cap, cur, e, _⟩
      · exact ⟨none, 0, by rw [e, e0]⟩
      · exact ⟨_, cap, e⟩
    have hqr : q ≠ r := fun e => by have := H.out.bl.lt; omega
    have HBK := Lib.hid hbk
    have HVT := Lib.hid hvt
    obtain ⟨p, hp⟩ : ∃ p, pkOf a = p := ⟨_, rfl⟩
    have HP := Lib.hid hp
    have hln0 : decide ((n : Int) = 0) = false := by simp; omega
    have hn0 : ((n : Int) == 0) = false := by rw [beq_eq_false_iff_ne]; omega
    have hnpos : (0 : Int) < n := by omega
    subst hv
    clear hb hfl hbk hvt hq HA H hp
    have hws : IntKind.i64.wrap (4096 - (l.length : Int)) = 4096 - (l.length : Int) := by rw [IntKind.wrap_i64]; omega
    cases hk : (a.kd == 0) with
    | true =>
      have hpp : p = a.wk := by rw [← HP.out]; unfold pkOf; rw [if_pos (beq_iff_eq.1 hk)]
      rw [← hpp] at c0
      by_cases h1 : 0 ≤ p ∧ p = pk
      · have d1 : decide ((0 : Int) ≤ p) = true := decide_eq_true h1.1
        have d2 : (p == pk) = true := beq_iff_eq.2 h1.2
        have hp0 := h1.1
        have HH := Lib.hid h1
        clear h1
        go_wp2
        rw [HR.out, HO.out]
        refine ⟨HB.out, ?_⟩
        dsimp only
        rw [HP.out, if_pos HH.out]
        rfl
      · have HH := Lib.hid h1
        have FIN : Hid (∀ e W, (if 4096 < l.length + n then e = Ending.returned (.int .i64 9) else e = .returned (.int .i64 0) ∧ ∃ v', RdR W B r c v' p (l ++ List.replicate n a)) → Below B w W → R e W) := fun e W h hb => by
          rw [HR.out, HO.out]
          refine ⟨hb, ?_⟩
          dsimp only
          rw [HP.out, if_neg HH.out]
          exact h
        have hp0 : 0 ≤ p := by have := HWK.out; rw [hpp]; exact this.1
        have d1 : decide ((0 : Int) ≤ p) = true := decide_eq_true hp0
        have d2 : (p == pk) = false := beq_eq_false_iff_ne.2 (fun e => h1 ⟨hp0, e⟩)
        clear h1 hpp
        by_cases h2 : 4096 < l.length + n
        · have d3 : decide ((4096 : Int) - (l.length : Int) < (n : Int)) = true := decide_eq_true (by omega)
          have d4 : (4096 : Int) - (l.length : Int) < (n : Int) := by omega
          go_wp2
          exact FIN.out _ _ (by rw [if_pos h2]; rfl) HB.out
        · have d3 : decide ((4096 : Int) - (l.length : Int) < (n : Int)) = false := decide_eq_false (by omega)
          have d4 : ¬ (4096 : Int) - (l.length : Int) < (n : Int) := by omega
          obtain ⟨i, hi, hz, hz1, hz2⟩ := info_parts info_actI
          obtain ⟨css, k1, k2, k3⟩ := H1.out.pa
          have HK1 := Lib.hid k1
          have HK2 := Lib.hid k2
          have HK3 := Lib.hid k3
          have hsrc : ∀ j u, (List.replicate n (actC a V vn vc)).flatten[j]? = some u → w1.cell? (Addr.add ⟨q, 0, none⟩ j) = some u := fun j u hj => by rw [Addr.add_lit, Nat.zero_add, HBK.out.cell, List.getElem?_toArray]; exact hj
          have HSRC := Lib.hid hsrc
          have hB1 : B ≤ w1.heap.size := Nat.le_trans hBw HB.out.size
          clear k1 k2 k3 hsrc
          go_wp2_with (at_builtin; refine wpList_append_lies _ rfl (.tmp 67) (.tmp 68) 24 rfl B 40 i _ 8 80 Tryd.underlying24 hi hz hz1 hz2 rfl (by decide) _ l.length css.flatten rfl HK1.out ⟨q, 0, none⟩ n n (List.replicate n (actC a V vn vc)).flatten rfl flat_size HSRC.out flat_one (by omega) (by unfold maxLen; omega) (by omega) hB1 _ rfl ?_)
          intro g cap w2 ho hgr hat hlt
          have hpa : PaS w2 B (.slice (some ⟨g, 0, none⟩) (l.length + n) cap) (l ++ List.replicate n a) := PaS.push (w := w1) HK1.out HK2.out HK3.out HVT.out (by have h1 := HVT.out.1.1; have h2 := HVL.out; simp at h1; omega) HG.out hgr ho
          have hbl := blk_rowI H1.out.bl HK1.out (by decide) hgr
          have hbe : Below B w w2 := HB.out.trans ((Below.refl B w1).grown hgr hB1 (fun k hk => (HK1.out.lt k hk).1))
          obtain ⟨w3, hs3, hb3, hg3⟩ := stZ (i := 5) (ty := 24) (v := .slice (some ⟨g, 0, none⟩) (l.length + n) cap) (P := Tryd.prog) hbl (show 5 < 7 by omega) (fun W h1 h2 => stZ_acts W h1 h2)
          obtain ⟨w4, hs4, hb4, hg4⟩ := stZ (i := 6) (ty := 3) (v := .int .i64 p) (P := Tryd.prog) hb3 (show 6 < 7 by omega) (fun W h1 h2 => stZ_int W h1 h2)
          have hr1 := H1.out.br
          have hfin : Below B w w4 ∧ RdR w4 B r c (.slice (some ⟨g, 0, none⟩) (l.length + n) cap) p (l ++ List.replicate n a) := by
            have e2 := hbe.size
            have e3 : Below B w w3 := hbe.trans (below_of_only hg3 (by omega) hr1)
            have e4 := e3.size
            exact ⟨e3.trans (below_of_only hg4 (by omega) hr1), hb4, (hpa.other hbl (by decide) (by decide) hg3).other hb3 (by decide) (by decide) hg4, hr1⟩
          have HF := Lib.hid hfin
          clear ho hgr hat hlt hpa hbl hbe hb3 hg3 hb4 hg4 hr1 hfin
          go_wp2_with (first | refine wpList_storeE hs3 _ _ rfl rfl rfl rfl ?_ | refine wpList_storeE hs4 _ _ rfl rfl rfl rfl ?_)
          exact FIN.out _ _ (by rw [if_neg h2]; exact ⟨rfl, _, HF.out.2⟩) HF.out.1
    | false =>
      have hpp : p = -1 := by rw [← HP.out]; unfold pkOf; rw [if_neg (beq_eq_false_iff_ne.1 hk)]
      have HH : Hid (¬ (0 ≤ p ∧ p = pk)) := fun q => by rw [hpp] at q; omega
      have FIN : Hid (∀ e W, (if 4096 < l.length + n then e = Ending.returned (.int .i64 9) else e = .returned (.int .i64 0) ∧ ∃ v', RdR W B r c v' p (l ++ List.replicate n a)) → Below B w W → R e W) := fun e W h hb => by
        rw [HR.out, HO.out]
        refine ⟨hb, ?_⟩
        dsimp only
        rw [HP.out, if_neg HH.out]
        exact h
      have HPP := Lib.hid hpp
      clear hpp
      by_cases h2 : 4096 < l.length + n
      · have d3 : decide ((4096 : Int) - (l.length : Int) < (n : Int)) = true := decide_eq_true (by omega)
        have d4 : (4096 : Int) - (l.length : Int) < (n : Int) := by omega
        go_wp2
        exact FIN.out _ _ (by rw [if_pos h2]; rfl) HB.out
      · have d3 : decide ((4096 : Int) - (l.length : Int) < (n : Int)) = false := decide_eq_false (by omega)
        have d4 : ¬ (4096 : Int) - (l.length : Int) < (n : Int) := by omega
        obtain ⟨i, hi, hz, hz1, hz2⟩ := info_parts info_actI
        obtain ⟨css, k1, k2, k3⟩ := H1.out.pa
        have HK1 := Lib.hid k1
        have HK2 := Lib.hid k2
        have HK3 := Lib.hid k3
        have hsrc : ∀ j u, (List.replicate n (actC a V vn vc)).flatten[j]? = some u → w1.cell? (Addr.add ⟨q, 0, none⟩ j) = some u := fun j u hj => by rw [Addr.add_lit, Nat.zero_add, HBK.out.cell, List.getElem?_toArray]; exact hj
        have HSRC := Lib.hid hsrc
        have hB1 : B ≤ w1.heap.size := Nat.le_trans hBw HB.out.size
        clear k1 k2 k3 hsrc
        go_wp2_with (at_builtin; refine wpList_append_lies _ rfl (.tmp 67) (.tmp 68) 24 rfl B 40 i _ 8 80 Tryd.underlying24 hi hz hz1 hz2 rfl (by decide) _ l.length css.flatten rfl HK1.out ⟨q, 0, none⟩ n n (List.replicate n (actC a V vn vc)).flatten rfl flat_size HSRC.out flat_one (by omega) (by unfold maxLen; omega) (by omega) hB1 _ rfl ?_)
        intro g cap w2 ho hgr hat hlt
        have hpa : PaS w2 B (.slice (some ⟨g, 0, none⟩) (l.length + n) cap) (l ++ List.replicate n a) := PaS.push (w := w1) HK1.out HK2.out HK3.out HVT.out (by have h1 := HVT.out.1.1; have h2 := HVL.out; simp at h1; omega) HG.out hgr ho
        have hbl := blk_rowI H1.out.bl HK1.out (by decide) hgr
        have hbe : Below B w w2 := HB.out.trans ((Below.refl B w1).grown hgr hB1 (fun k hk => (HK1.out.lt k hk).1))
        obtain ⟨w3, hs3, hb3, hg3⟩ := stZ (i := 5) (ty := 24) (v := .slice (some ⟨g, 0, none⟩) (l.length + n) cap) (P := Tryd.prog) hbl (show 5 < 7 by omega) (fun W h1 h2 => stZ_acts W h1 h2)
        obtain ⟨w4, hs4, hb4, hg4⟩ := stZ (i := 6) (ty := 3) (v := .int .i64 (-1)) (P := Tryd.prog) hb3 (show 6 < 7 by omega) (fun W h1 h2 => stZ_int W h1 h2)
        have hr1 := H1.out.br
        have hfin : Below B w w4 ∧ RdR w4 B r c (.slice (some ⟨g, 0, none⟩) (l.length + n) cap) (-1) (l ++ List.replicate n a) := by
          have e2 := hbe.size
          have e3 : Below B w w3 := hbe.trans (below_of_only hg3 (by omega) hr1)
          have e4 := e3.size
          exact ⟨e3.trans (below_of_only hg4 (by omega) hr1), hb4, (hpa.other hbl (by decide) (by decide) hg3).other hb3 (by decide) (by decide) hg4, hr1⟩
        have HF := Lib.hid hfin
        clear ho hgr hat hlt hpa hbl hbe hb3 hg3 hb4 hg4 hr1 hfin
        go_wp2_with (first | refine wpList_storeE hs3 _ _ rfl rfl rfl rfl ?_ | refine wpList_storeE hs4 _ _ rfl rfl rfl rfl ?_)
        exact FIN.out _ _ (by rw [if_neg h2]; exact ⟨rfl, _, (by rw [HPP.out]; exact HF.out.2)⟩) HF.out.1
end Go.Proofs.YtillmlaoppibfaaDoor
