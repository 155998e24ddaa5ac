/- Planes: Put. Printed by genPmM.py. -/
import Derived.Test.YtckclflbcgblaaaPmL
namespace Go.Proofs.Ytckclflbcgblaaa
open Go.RowKit Go.Maps Go.ChangeMaps Go.MapKept
/-- The error that Put tells. -/
def putW (ns : List ND) (links en tp level id : Int) : Int := if chkB ns links en tp then (if level < 0 ∨ 7 < level then 6 else if hasId ns id then 2 else if (liveI ns).length = 4096 then 4 else 0) else 7
def putND (ns : List ND) (id : Int) (vn : Nat) (vxs : List Int) (tags level : Int) : ND :=
  ⟨id, ⟨none, vn, vn, vxs⟩, tags, level, none, level.toNat + 1, level.toNat + 1, List.replicate (level.toNat + 1) ⟨none, 0, 0, []⟩, (nAt ns 0).next, 0⟩
def growN (ns : List ND) (slot : Nat) : List ND := if slot = ns.length then ns ++ [nd0] else ns
def linkN (l : List ND) (h slot : Nat) : List ND := (l.set h { nAt l h with prev := slot }).set 0 { nAt (l.set h { nAt l h with prev := slot }) 0 with next := slot }
def putSt (ns : List ND) (slot : Nat) (d : ND) : List ND := linkN ((growN ns slot).set slot d) (nAt ns 0).next.toNat slot
def PutR (ns : List ND) (links en tp level id : Int) (vn : Nat) (vxs : List Int) (tags : Int) (w : World) (e : Ending) (w' : World) : Prop :=
  (putW ns links en tp level id ≠ 0 ∧ e = .returned (.tuple #[.agg (pgL none 0 0 0 0), .int .i64 0, .int .i64 (putW ns links en tp level id)]) ∧ Below w.heap.size w w') ∨
  (putW ns links en tp level id = 0 ∧ ∃ g n c ns', e = .returned (.tuple #[.agg (pgL (some ⟨g, 0, none⟩) n c en tp), .int .i64 (slotI ns), .int .i64 0]) ∧ PgAt w' w'.heap.size (some ⟨g, 0, none⟩) n c ns' ∧ Eqv (putSt ns (slotI ns) (putND ns id vn vxs tags level)) ns' ∧ Below w.heap.size w w')
theorem PutR.no {ns : List ND} {links en tp level id : Int} {vn : Nat} {vxs : List Int} {tags y : Int} {w w' : World} (h : putW ns links en tp level id = y) (hy : y ≠ 0) (hb : Below w.heap.size w w') : PutR ns links en tp level id vn vxs tags w (.returned (.tuple #[.agg (pgL none 0 0 0 0), .int .i64 0, .int .i64 y])) w' := by
  subst h; exact .inl ⟨hy, rfl, hb⟩
theorem lvI_lt (ns : List ND) : ∀ k, 1 ≤ k → (lvI ns k).length + 1 ≤ k
  | 0, h => by omega
  | 1, _ => by rw [lvI_one]; simp
  | k + 2, _ => by
    have := lvI_lt ns (k + 1) (by omega)
    rw [lvI_succ, List.length_append]
    have h2 : (if thN ns (k + 1) then [((k + 1 : Nat) : Int)] else []).length ≤ 1 := by split <;> simp
    omega
theorem live_lt {ns : List ND} (h : 1 ≤ ns.length) : (liveI ns).length + 1 ≤ ns.length := lvI_lt ns _ h
theorem slot_le {ns : List ND} (h : 1 ≤ ns.length) : 1 ≤ slotI ns ∧ slotI ns ≤ ns.length := by
  have h1 := slotJ_le ns (liveI ns).length
  have h2 := live_lt h
  exact ⟨h1.1, by unfold slotI; omega⟩
theorem chk_parts {ns : List ND} {links en tp : Int} (h : chkB ns links en tp = true) : 1 ≤ ns.length ∧ ns.length ≤ 4097 ∧ ringB ns = true ∧ (liveI ns).all (fun x => nodeB ns x.toNat links) = true ∧ entB ns en tp = true := by
  unfold chkB at h
  simp only [Bool.and_eq_true, decide_eq_true_eq] at h
  exact ⟨h.1.1.1.1, h.1.1.1.2, h.1.1.2, h.1.2, h.2⟩
theorem ring_ok {ns : List ND} (h : ringB ns = true) {i : Nat} (hi : i < ns.length) : rOk ns i = true := by
  unfold ringB at h
  rw [Bool.and_eq_true, List.all_eq_true] at h
  exact h.1 i (List.mem_range.2 hi)
theorem chk_head {ns : List ND} {links en tp : Int} (h : chkB ns links en tp = true) : ∃ k : Nat, (nAt ns 0).next = k ∧ k < ns.length := by
  obtain ⟨h1, _, h3, _⟩ := chk_parts h
  have := ring_ok h3 (i := 0) (by omega)
  unfold rOk at this
  rw [if_neg (by simp), Bool.and_eq_true, Bool.and_eq_true] at this
  exact place_nat (by omega) this.1.1
theorem any_bad_ig {xs : List Int} {p : Int → Bool} {k : Nat} (hk : k < xs.length) (h : p (ig xs k) = true) : xs.any p = true := List.any_eq_true.2 ⟨_, ig_mem hk, h⟩
theorem any_all_ig {xs : List Int} {p : Int → Bool} (h : ∀ k, k < xs.length → p (ig xs k) = false) : xs.any p = false := by
  rw [List.any_eq_false]
  intro x hx
  obtain ⟨k, hk, rfl⟩ := List.getElem_of_mem hx
  have := h k hk
  unfold ig at this
  rw [List.getD_eq_getElem?_getD, List.getElem?_eq_getElem hk] at this
  simpa using this
theorem norm_prev {d d' : ND} (h : d.norm = d'.norm) (v : Int) : ({ d with prev := v } : ND).norm = ({ d' with prev := v } : ND).norm := by
  have e := congrArg (fun x : ND => ({ x with prev := v } : ND)) h
  exact e
theorem norm_next {d d' : ND} (h : d.norm = d'.norm) (v : Int) : ({ d with next := v } : ND).norm = ({ d' with next := v } : ND).norm := by
  have e := congrArg (fun x : ND => ({ x with next := v } : ND)) h
  exact e
theorem linkN_eqv {l l' : List ND} (h : Eqv l l') (k slot : Nat) : Eqv (linkN l k slot) (linkN l' k slot) := by
  unfold linkN
  have h1 := h.set k (norm_prev (h.nAt k) (slot : Int))
  exact h1.set 0 (norm_next (h1.nAt 0) (slot : Int))
theorem linkN_len (l : List ND) (k slot : Nat) : (linkN l k slot).length = l.length := by unfold linkN; rw [List.length_set, List.length_set]
theorem yieldsIf_addR {P : Program} {ops : Array Oper} {S : World → Prop} {o : Oper} {a : Act} {t t' : TypeId} {m n r : Int} (hw : Region.wanted o (yielded ops a.tmps) = true) (x y : Operand) (ho : o.op = .binOp .add t x y t') (hx : a.eval x = .int .i64 m) (hy : a.eval y = .int .i64 n) (hr : IntKind.i64.wrap (m + n) = r) : YieldsIf P ops S o (.int .i64 r) a := by
  refine .inl ⟨hw, fun w _ => ?_⟩
  unfold execOp
  simp only [ho, hx, hy]
  simp [go_sem, ← hr]
theorem make_lists (n : Nat) (hn : n ≤ 1048576) (w : World) : (Instr.makeSlice 47 (.int .i64 (n : Int)) (.int .i64 (n : Int))).run Try.prog w = .ok (.slice (some ⟨w.heap.size, 0, none⟩) n n) (w.alloc (.cells (madeCells #[.slice none 0 0] n) 23)) := by
  obtain ⟨i, hi, hz, hz1, hz2⟩ := info_parts info_ints
  have hr := run_make (P := Try.prog) w 47 23 i _ Try.underlying47 hi hz .i64 .i64 n n (by omega) (Int.le_refl _) (by rw [hz2]; omega) (by omega)
  simp only [Int.toNat_natCast, hz1, Nat.mul_one] at hr
  exact hr
theorem made_rw (w : World) (n : Nat) : Rw (w.alloc (.cells (madeCells #[.slice none 0 0] n) 23)) w.heap.size 23 (n * 1) ((List.replicate n (⟨none, 0, 0, []⟩ : IS)).map IS.v) := by
  have e : (madeCells #[.slice none 0 0] n).toList = List.replicate n (.slice none 0 0) := by
    refine List.ext_getElem (by simp [madeCells]) fun i h1 h2 => ?_
    simp [madeCells, Nat.mod_one]
  refine ⟨_, heap_alloc_new w _, by simp [madeCells], ?_⟩
  rw [e, List.map_replicate, List.length_replicate, List.take_of_length_le (by simp)]; rfl
theorem exec_make {w w' : World} {o : Oper} {a : Act} {ty : TypeId} {l c v : Value} {x y : Operand} (ho : o.op = .makeSlice ty x y) (hx : a.eval x = l) (hy : a.eval y = c) (hr : (Instr.makeSlice ty l c).run Try.prog w = .ok v w') : (execOp a.eval o).run Try.prog w = .ok (.value v) w' := by
  unfold execOp
  simp only [ho, hx, hy, Sem.run_bind, hr, Result.andThen_ok]
  rfl
/-- .. of a vector of the call's own. -/
theorem vec_own {w : World} {B : Nat} {A : Option Addr} {n c : Nat} {xs : List Int} (ho : w.ownsRow B 21 1 (.slice A n c) n (xs.map (.int .i32))) (hn : n ≤ 1048576) (hw : ∀ x ∈ xs, (Lit.int .i32 x).wf = true) : IS.AtS w (fun k => B ≤ k ∧ k < w.heap.size) .i32 ⟨A, n, c, xs⟩ := by
  refine ⟨fun e => ?_, hn, ?_, hw⟩
  · rcases ho.2 with ⟨q, q0⟩ | ⟨x, cap, cur, q, _⟩
    · injection q with _ q2 q3; exact ⟨q2, q3⟩
    · injection q with q1 _ _; exact absurd (e.symm.trans q1) (by simp)
  · refine ⟨by simpa using ho.1, fun h0 => ?_⟩
    obtain ⟨x, e, hx, _, _, hr⟩ := Rw.of_own ho h0
    exact ⟨x, 0, e, ⟨hx, hr.lt⟩, fun q u hu => by rw [Nat.zero_add]; exact hr.cell hu⟩
theorem itemT : (Try.prog.info? 32).map (·.size) = some 3 := by kernel_rfl
theorem item_load {w : World} {b : Nat} {id tags : Int} {vA : Option Addr} {vn vc : Nat} (h : Blk w b 32 (itL id vA vn vc tags)) : (Instr.loadAt 32 (.pointer (some ⟨b, 0, none⟩))).run Try.prog w = .ok (.agg (itL id vA vn vc tags)) w := row_load h Try.underlying32 rfl itemT
theorem itL_lit (id : Int) (vA : Option Addr) (vn vc : Nat) (tags : Int) : itL id vA vn vc tags = #[.int .u64 id, .slice vA vn vc, .int .u64 tags] := rfl
set_option maxRecDepth 100000 in
set_option maxHeartbeats 4000000 in
theorem pl_put (A : Option Addr) (n c : Nat) (ns : List ND) (en tp links level id : Int) (vA : Option Addr) (vn vc : Nat) (vxs : List Int) (tags : Int) (w : World) (hg : PgAt w w.heap.size A n c ns)
    (hv : IS.At w w.heap.size .i32 ⟨vA, vn, vc, vxs⟩) (hid : (Lit.int .u64 id).wf = true) :
    Calls Try.prog 7 #[.agg (pgL A n c en tp), .agg (itL id vA vn vc tags), .int .i64 level, .int .i64 links] w (PutR ns links en tp level id vn vxs tags w) := by
  obtain ⟨w3, hw3⟩ : ∃ x, ((w.alloc (.cells (pgL A n c en tp) 27)).alloc (.cells (itL id vA vn vc tags) 32)).alloc (.cells (pgL none 0 0 0 0) 27) = x := ⟨_, rfl⟩
  have s1 : (w.alloc (.cells (pgL A n c en tp) 27)).heap.size = w.heap.size + 1 := by simp only [World.alloc, Array.size_push]
  have s2 : ((w.alloc (.cells (pgL A n c en tp) 27)).alloc (.cells (itL id vA vn vc tags) 32)).heap.size = w.heap.size + 1 + 1 := by simp only [World.alloc, Array.size_push]
  have k1 : Blk w3 w.heap.size 27 (pgL A n c en tp) := by rw [← hw3]; exact ((Blk.new _ _ _).alloc _).alloc _
  have k2 : Blk w3 (w.heap.size + 1) 32 (itL id vA vn vc tags) := by rw [← hw3, ← s1]; exact (Blk.new _ _ _).alloc _
  have k3 : Blk w3 (w.heap.size + 1 + 1) 27 (pgL none 0 0 0 0) := by rw [← hw3, ← s2]; exact Blk.new _ _ _
  have b3 : Below w.heap.size w w3 := by rw [← hw3]; exact (((bel_box w _).alloc (by rw [s1]; omega) _).alloc (by rw [s2]; omega) _)
  have hn := hg.2.1
  have HL := Lib.hid hg.len
  have HG := Lib.hid hg
  have HV := Lib.hid hv
  have HID := Lib.hid hid
  have K1 := Lib.hid k1
  have K2 := Lib.hid k2
  have K3 := Lib.hid k3
  have HB3 := Lib.hid b3
  have LP3 := plane_load k1
  have HLV := pl_live A n c ns en tp w3 (hg.on b3 b3.size)
  have HPW : Hid (putW ns links en tp level id = if chkB ns links en tp then (if level < 0 ∨ 7 < level then 6 else if hasId ns id then 2 else if (liveI ns).length = 4096 then 4 else 0) else 7) := rfl
  clear hg hv hid k1 k2 k3 b3 s1 s2
  rw [planeZ, itL_lit] at hw3
  unfold pgL at hw3 LP3 HLV ⊢
  unfold itL
  replace HLV := Lib.hid HLV
  go_enter Try.func7, Try.ntmps7
  go_upto_region 1 with fail
  (try rw [hw3])
  clear hw3
  go_upto_region 2 with (first | ((with_reducible refine wpList_loadE (op := ⟨some 16, _, _, _, _, _⟩) LP3 ?leX ?leG ?leO ?leE ?_); (case leO => exact rfl); (case leE => exact rfl); (case leG => exact rfl)) | (go_at_call 13; (with_reducible refine HLV.out.mono ?_); rintro e w4 ⟨A2, n2, c2, rfl, ho2, b4⟩; have HO := Lib.hid ho2.rd; have HOL := Lib.hid ho2.len; have HB4 := Lib.hid b4; clear ho2 b4))
  have hl2 : n2 ≤ 1048576 := by have h1 := HOL.out; have h2 := lvI_le ns ns.length; have h3 := HL.out; unfold liveI at h1; omega
  have LP4 := plane_load (K1.out.below HB4.out K1.out.lt)
  have HCK := pl_check A n c ns en tp links w4 (HG.out.on (HB3.out.trans (HB4.out.mono HB3.out.size)) (Nat.le_trans HB3.out.size HB4.out.size))
  unfold pgL at LP4 HCK
  cases hck : chkB ns links en tp with
  | false =>
    have HY : Hid (putW ns links en tp level id = 7) := by show _ = _; rw [HPW.out, hck]; rfl
    rw [chkW_no hck] at HCK
    replace HCK := Lib.hid HCK
    clear hck LP3 HLV
    go_upto_region 3 with (first | ((with_reducible refine wpList_loadE (op := ⟨some 19, _, _, _, _, _⟩) LP4 ?leX ?leG ?leO ?leE ?_); (case leO => exact rfl); (case leE => exact rfl); (case leG => exact rfl)) | (go_at_call 12; (with_reducible refine HCK.out.mono ?_); rintro e w5 ⟨rfl, b5⟩; have HB5 := Lib.hid (HB4.out.trans (b5.mono HB4.out.size)); clear b5))
    have b9 := HB3.out.trans (HB5.out.mono HB3.out.size)
    have k9 : Blk w5 (w.heap.size + 1 + 1) 27 (pgL none 0 0 0 0) := K3.out.below HB5.out K3.out.lt
    have SR := row_store k9 (pgL none 0 0 0 0) rfl planeT (by simp [pgL, Value.oneCell'])
    have HKZ : Hid (Blk (w5.setCells (w.heap.size + 1 + 1) 0 (pgL none 0 0 0 0).toList) (w.heap.size + 1 + 1) 27 (pgL none 0 0 0 0)) := k9.put _ rfl
    have HBZ : Hid (Below w.heap.size w (w5.setCells (w.heap.size + 1 + 1) 0 (pgL none 0 0 0 0).toList)) := below_setCells b9 (Nat.le_refl _) (by omega) _ _
    obtain ⟨wz, hwz⟩ : ∃ x, w5.setCells (w.heap.size + 1 + 1) 0 (pgL none 0 0 0 0).toList = x := ⟨_, rfl⟩
    rw [hwz] at SR HKZ HBZ
    clear hwz b9 k9
    unfold pgL at SR
    go_wp2_with (refine wpList_storeE SR _ _ rfl rfl rfl rfl ?_)
    refine bodyPost_ret (v := .tuple #[.agg (pgL none 0 0 0 0), .int .i64 0, .int .i64 7]) ?_ rfl (PutR.no HY.out (by decide) HBZ.out)
    exact results_row12 Try.results7 _ rfl HKZ.out Try.underlying27 rfl planeT
  | true =>
    rw [chkW_yes hck] at HCK
    replace HCK := Lib.hid HCK
    obtain ⟨hn1, hn2, _⟩ := chk_parts hck
    have HHD := Lib.hid (chk_head hck)
    have HPW2 : Hid (putW ns links en tp level id = if level < 0 ∨ 7 < level then 6 else if hasId ns id then 2 else if (liveI ns).length = 4096 then 4 else 0) := by show _ = _; rw [HPW.out, hck]; rfl
    have HS := Lib.hid (slot_le hn1)
    rw [HL.out] at hn1 hn2
    clear hck LP3 HLV
    go_upto_region 4 with (first | ((with_reducible refine wpList_loadE (op := ⟨some 19, _, _, _, _, _⟩) LP4 ?leX ?leG ?leO ?leE ?_); (case leO => exact rfl); (case leE => exact rfl); (case leG => exact rfl)) | (go_at_call 12; (with_reducible refine HCK.out.mono ?_); rintro e w5 ⟨rfl, b5⟩; have HB5 := Lib.hid (HB4.out.trans (b5.mono HB4.out.size)); have HO5 := Lib.hid ((HO.out.below b5).more b5.size); clear b5))
    clear HCK LP4
    by_cases l0 : level < 0
    · have HY : Hid (putW ns links en tp level id = 6) := by show _ = _; rw [HPW2.out, if_pos (.inl l0)]
      have e1 : decide (level < 0) = true := decide_eq_true l0
      go_upto_region 5 with fail
      have b9 := HB3.out.trans (HB5.out.mono HB3.out.size)
      have k9 : Blk w5 (w.heap.size + 1 + 1) 27 (pgL none 0 0 0 0) := K3.out.below HB5.out K3.out.lt
      have SR := row_store k9 (pgL none 0 0 0 0) rfl planeT (by simp [pgL, Value.oneCell'])
      have HKZ : Hid (Blk (w5.setCells (w.heap.size + 1 + 1) 0 (pgL none 0 0 0 0).toList) (w.heap.size + 1 + 1) 27 (pgL none 0 0 0 0)) := k9.put _ rfl
      have HBZ : Hid (Below w.heap.size w (w5.setCells (w.heap.size + 1 + 1) 0 (pgL none 0 0 0 0).toList)) := below_setCells b9 (Nat.le_refl _) (by omega) _ _
      obtain ⟨wz, hwz⟩ : ∃ x, w5.setCells (w.heap.size + 1 + 1) 0 (pgL none 0 0 0 0).toList = x := ⟨_, rfl⟩
      rw [hwz] at SR HKZ HBZ
      clear hwz b9 k9
      unfold pgL at SR
      go_wp2_with (refine wpList_storeE SR _ _ rfl rfl rfl rfl ?_)
      refine bodyPost_ret (v := .tuple #[.agg (pgL none 0 0 0 0), .int .i64 0, .int .i64 6]) ?_ rfl (PutR.no HY.out (by decide) HBZ.out)
      exact results_row12 Try.results7 _ rfl HKZ.out Try.underlying27 rfl planeT
    by_cases l7 : 7 < level
    · have HY : Hid (putW ns links en tp level id = 6) := by show _ = _; rw [HPW2.out, if_pos (.inr l7)]
      have e1 : decide (level < 0) = false := decide_eq_false l0
      have e2 : decide (level > 7) = true := decide_eq_true l7
      go_upto_region 5 with fail
      have b9 := HB3.out.trans (HB5.out.mono HB3.out.size)
      have k9 : Blk w5 (w.heap.size + 1 + 1) 27 (pgL none 0 0 0 0) := K3.out.below HB5.out K3.out.lt
      have SR := row_store k9 (pgL none 0 0 0 0) rfl planeT (by simp [pgL, Value.oneCell'])
      have HKZ : Hid (Blk (w5.setCells (w.heap.size + 1 + 1) 0 (pgL none 0 0 0 0).toList) (w.heap.size + 1 + 1) 27 (pgL none 0 0 0 0)) := k9.put _ rfl
      have HBZ : Hid (Below w.heap.size w (w5.setCells (w.heap.size + 1 + 1) 0 (pgL none 0 0 0 0).toList)) := below_setCells b9 (Nat.le_refl _) (by omega) _ _
      obtain ⟨wz, hwz⟩ : ∃ x, w5.setCells (w.heap.size + 1 + 1) 0 (pgL none 0 0 0 0).toList = x := ⟨_, rfl⟩
      rw [hwz] at SR HKZ HBZ
      clear hwz b9 k9
      unfold pgL at SR
      go_wp2_with (refine wpList_storeE SR _ _ rfl rfl rfl rfl ?_)
      refine bodyPost_ret (v := .tuple #[.agg (pgL none 0 0 0 0), .int .i64 0, .int .i64 6]) ?_ rfl (PutR.no HY.out (by decide) HBZ.out)
      exact results_row12 Try.results7 _ rfl HKZ.out Try.underlying27 rfl planeT
    have HPW3 : Hid (putW ns links en tp level id = if hasId ns id then 2 else if (liveI ns).length = 4096 then 4 else 0) := by show _ = _; rw [HPW2.out, if_neg (by omega)]
    have e1 : decide (level < 0) = false := decide_eq_false l0
    have e2 : decide (level > 7) = false := decide_eq_false l7
    have hb5w := HB3.out.trans (HB5.out.mono HB3.out.size)
    have HGB := Lib.hid (HG.out.on hb5w (Nat.le_trans HB3.out.size HB5.out.size))
    have K15 := Lib.hid (K1.out.below HB5.out K1.out.lt)
    have K25 := Lib.hid (K2.out.below HB5.out K2.out.lt)
    have hcn := fun (Y : World) (hY : Below w5.heap.size w5 Y) => cnt_func A2 n2 c2 (liveI ns) 22 #[.pointer (some ⟨w.heap.size, 0, none⟩), .pointer (some ⟨w.heap.size + 1, 0, none⟩)] (fun i => idI ns (ig (liveI ns) i) == id) (fun _ Z => Below w5.heap.size w5 Z) Y (by omega)
      (enters_of Try.func22 (by kernel_rfl) rfl) (fun _ Z hZ => (HO5.out.below hZ).more hZ.size)
      (fun i Z hi hZ => by
        obtain ⟨k, hx, _, hkl⟩ := live_nat (ig_mem (xs := liveI ns) (k := i) (by rw [HOL.out]; exact hi))
        rw [hx]
        have := put_cl k A n c ns en tp id vA vn vc tags w.heap.size (w.heap.size + 1) Z (HGB.out.on hZ hZ.size) (by rw [← HL.out]; exact hkl) (K15.out.below hZ K15.out.lt) (K25.out.below hZ K25.out.lt)
        have hi2 : idI ns (k : Int) = (nAt ns k).id := by unfold idI; rw [Int.toNat_natCast]
        rw [hi2]
        exact this.mono fun e w' ⟨h1, h2⟩ => ⟨h1, hZ.trans (h2.mono hZ.size)⟩) hY
    have HCN := Lib.hid hcn
    clear hcn hb5w
    go_upto_region 6 with fail
    clear e1 e2
    have HCC := Lib.hid (HCN.out w5 (Below.refl _ _))
    go_wp2_with fail
    refine HCC.out.mono ?_
    rintro e w6 (⟨hall, rfl, hk⟩ | ⟨i, hi, hqi, _, rfl, hk⟩)
    rotate_left
    · have HY : Hid (putW ns links en tp level id = 2) := by
        show _ = _
        rw [HPW3.out, if_pos]
        unfold hasId
        exact any_bad_ig (k := i) (by rw [HOL.out]; exact hi) hqi
      have HB6 := Lib.hid (HB5.out.trans (hk.mono HB5.out.size))
      clear hqi hk HCN HCC
      go_upto_region 7 with fail
      have b9 := HB3.out.trans (HB6.out.mono HB3.out.size)
      have k9 : Blk w6 (w.heap.size + 1 + 1) 27 (pgL none 0 0 0 0) := K3.out.below HB6.out K3.out.lt
      have SR := row_store k9 (pgL none 0 0 0 0) rfl planeT (by simp [pgL, Value.oneCell'])
      have HKZ : Hid (Blk (w6.setCells (w.heap.size + 1 + 1) 0 (pgL none 0 0 0 0).toList) (w.heap.size + 1 + 1) 27 (pgL none 0 0 0 0)) := k9.put _ rfl
      have HBZ : Hid (Below w.heap.size w (w6.setCells (w.heap.size + 1 + 1) 0 (pgL none 0 0 0 0).toList)) := below_setCells b9 (Nat.le_refl _) (by omega) _ _
      obtain ⟨wz, hwz⟩ : ∃ x, w6.setCells (w.heap.size + 1 + 1) 0 (pgL none 0 0 0 0).toList = x := ⟨_, rfl⟩
      rw [hwz] at SR HKZ HBZ
      clear hwz b9 k9
      unfold pgL at SR
      go_wp2_with (refine wpList_storeE SR _ _ rfl rfl rfl rfl ?_)
      refine bodyPost_ret (v := .tuple #[.agg (pgL none 0 0 0 0), .int .i64 0, .int .i64 2]) ?_ rfl (PutR.no HY.out (by decide) HBZ.out)
      exact results_row12 Try.results7 _ rfl HKZ.out Try.underlying27 rfl planeT
    have hno : hasId ns id = false := by
      unfold hasId
      exact any_all_ig fun k hk => hall k (by rw [← HOL.out]; exact hk)
    have HPW4 : Hid (putW ns links en tp level id = if n2 = 4096 then 4 else 0) := by show _ = _; rw [HPW3.out, hno, HOL.out]; rfl
    have HB6 := Lib.hid (HB5.out.trans (hk.mono HB5.out.size))
    have HO6 := Lib.hid ((HO5.out.below hk).more hk.size)
    clear hall hk HCN HCC hno HGB K15 K25 HO5
    by_cases h4 : n2 = 4096
    · have HY : Hid (putW ns links en tp level id = 4) := by show _ = _; rw [HPW4.out, if_pos h4]
      have e3 : ((n2 : Int) == 4096) = true := by rw [h4]; rfl
      have e4 : (n2 == 4096) = true := by rw [h4]; rfl
      clear h4
      go_upto_region 9 with fail
      have b9 := HB3.out.trans (HB6.out.mono HB3.out.size)
      have k9 : Blk w6 (w.heap.size + 1 + 1) 27 (pgL none 0 0 0 0) := K3.out.below HB6.out K3.out.lt
      have SR := row_store k9 (pgL none 0 0 0 0) rfl planeT (by simp [pgL, Value.oneCell'])
      have HKZ : Hid (Blk (w6.setCells (w.heap.size + 1 + 1) 0 (pgL none 0 0 0 0).toList) (w.heap.size + 1 + 1) 27 (pgL none 0 0 0 0)) := k9.put _ rfl
      have HBZ : Hid (Below w.heap.size w (w6.setCells (w.heap.size + 1 + 1) 0 (pgL none 0 0 0 0).toList)) := below_setCells b9 (Nat.le_refl _) (by omega) _ _
      obtain ⟨wz, hwz⟩ : ∃ x, w6.setCells (w.heap.size + 1 + 1) 0 (pgL none 0 0 0 0).toList = x := ⟨_, rfl⟩
      rw [hwz] at SR HKZ HBZ
      clear hwz b9 k9
      unfold pgL at SR
      go_wp2_with (refine wpList_storeE SR _ _ rfl rfl rfl rfl ?_)
      refine bodyPost_ret (v := .tuple #[.agg (pgL none 0 0 0 0), .int .i64 0, .int .i64 4]) ?_ rfl (PutR.no HY.out (by decide) HBZ.out)
      exact results_row12 Try.results7 _ rfl HKZ.out Try.underlying27 rfl planeT
    have HY : Hid (putW ns links en tp level id = 0) := by show _ = _; rw [HPW4.out, if_neg h4]
    have e3 : ((n2 : Int) == 4096) = false := beq_false_of_ne (by omega)
    have e4 : (n2 == 4096) = false := beq_false_of_ne h4
    go_wp2_with fail
    clear e3 e4 h4
    go_loopw [12, 44] (fun s12 s44 wr => ∃ j : Nat, j ≤ n2 ∧ s44 = .int .i64 j ∧ s12 = .int .i64 (slotJ ns j) ∧ w6 = wr) (fun _ s44 _ => n2 - (intOf s44).toNat)
    case atStart => exact ⟨0, Nat.zero_le _, rfl, rfl, rfl⟩
    case round =>
      obtain ⟨j, hj, rfl, rfl, rfl⟩ := hrel
      by_cases hlj : j < n2
      · have hjl : j < (liveI ns).length := by rw [HOL.out]; exact hlj
        obtain ⟨b9, o9, hA9, hb9, hx9⟩ := HO6.out.atI hlj
        subst hA9
        have hsl := slotJ_le ns j
        have hsu := slotJ_succ hjl
        obtain ⟨x, hx⟩ : ∃ x, ig (liveI ns) j = x := ⟨_, rfl⟩
        obtain ⟨sl, hsl2⟩ : ∃ sl, slotJ ns j = sl := ⟨_, rfl⟩
        rw [hx] at hsu hx9
        rw [hsl2] at hsu hsl ⊢
        obtain ⟨hsl0, hsl1⟩ := hsl
        cases q : (x == (sl : Int)) with
        | true =>
          rw [q] at hsu
          have HSU : Hid (slotJ ns (j + 1) = sl + 1) := hsu
          clear hsu hx hsl2
          go_wp2_with fail
          go_roundw
          case rel => exact ⟨j + 1, by omega, by go_num, by rw [HSU.out]; go_num, trivial⟩
          case measure => simp [intOf]; omega
        | false =>
          rw [q] at hsu
          have HSU : Hid (slotJ ns (j + 1) = sl) := hsu
          clear hsu hx hsl2
          go_wp2_with fail
          go_roundw
          case rel => exact ⟨j + 1, by omega, by go_num, by rw [HSU.out], trivial⟩
          case measure => simp [intOf]; omega
      · obtain rfl : j = n2 := by omega
        obtain ⟨slot, hslot⟩ : ∃ slot, slotI ns = slot := ⟨_, rfl⟩
        have hsj : slotJ ns j = slot := by rw [← hslot]; unfold slotI; rw [HOL.out]
        rw [hsj]
        rw [hslot, HL.out] at HS
        obtain ⟨hs1, hs2⟩ := HS.out
        have HSL := Lib.hid hslot
        clear hsj hslot hj hlj
        have h6w := HB3.out.trans (HB6.out.mono HB3.out.size)
        have h36 := HB6.out.size
        have LP6 := plane_load (K1.out.below HB6.out K1.out.lt)
        have HOW := Lib.hid (pl_own A n c ns en tp w6 w.heap.size (HG.out.below h6w) h6w.size (by omega))
        have K16 := Lib.hid (K1.out.below HB6.out K1.out.lt)
        have K26 := Lib.hid (K2.out.below HB6.out K2.out.lt)
        have K36 := Lib.hid (K3.out.below HB6.out K3.out.lt)
        have H6W := Lib.hid h6w
        clear h6w
        unfold pgL at LP6 HOW
        go_wp2_with ((with_reducible refine wpList_loadE (op := ⟨some 54, _, _, _, _, _⟩) LP6 ?leX ?leG ?leO ?leE ?_); (case leO => exact rfl); (case leE => exact rfl); (case leG => exact rfl))
        refine HOW.out.mono ?_
        rintro e w7 ⟨B, g, c7, W, hl, ns7, rfl, hB, ho, hE, hW, hb7⟩
        have hn7 : ns7.length = n := by rw [← hE.len, HL.out]
        simp only [HL.out] at ho ⊢
        have K17 := K16.out.below hb7 K16.out.lt
        have SR7 := row_store K17 (pgL (some ⟨g, 0, none⟩) n c7 en tp) rfl planeT (by simp [pgL, Value.oneCell'])
        have hPT := PtS.start (en := en) (tp := tp) hB ho hn7 hW hb7 H6W.out K16.out K36.out (by omega) (by have h1 := ho.gB; have h2 := ho.row.lt; omega)
        obtain ⟨w8, hw8⟩ : ∃ x, w7.setCells w.heap.size 0 (pgL (some ⟨g, 0, none⟩) n c7 en tp).toList = x := ⟨_, rfl⟩
        have K28 : Blk w8 (w.heap.size + 1) 32 (itL id vA vn vc tags) := by
          rw [← hw8]
          exact (K26.out.below hb7 K26.out.lt).tch (Tch.setCells (S := fun k => k = w.heap.size) rfl _ _ _ (Tch.refl _ _)) (by omega)
        rw [hw8] at SR7 hPT
        have HPT0 := Lib.hid hPT
        have HE7 := Lib.hid hE
        have HN7 := Lib.hid hn7
        have HK28 := Lib.hid K28
        clear hw8 K17 hPT K28 hE hn7 ho hW hb7 HOW LP6 K16 K26 K36 H6W HB6 HO6
        unfold pgL at SR7 ⊢
        go_upto_region 18 with (refine wpList_storeE SR7 _ _ rfl rfl rfl rfl ?_)
        clear SR7
        have x0 : w8.cell? ⟨w.heap.size, 0, none⟩ = some (.slice (some ⟨g, 0, none⟩) n c7) := by rw [← HN7.out]; exact HPT0.out.pl.cell 0
        by_cases hsn : slot = n
        · have e5 : ((slot : Int) == (n : Int)) = true := by rw [hsn]; exact beq_self_eq_true _
          have e6 : (slot == n) = true := by rw [hsn]; exact beq_self_eq_true _
          have HSN := Lib.hid hsn
          clear hsn
          obtain ⟨i, hi, hz, hz1, hz2⟩ := info_parts info_node
          have hown : (w8.alloc (.cells nd0.cells 49)).ownsRow B 49 7 (.slice (some ⟨g, 0, none⟩) n c7) n (flat ns7) :=
            (HPT0.out.own.row.own (by rw [flat_length, HN7.out]) HPT0.out.own.gB (by have := HPT0.out.own.cap.1; rw [HN7.out] at this; exact this) HPT0.out.own.cap.2).alloc _
          have hnews : ∀ j u, nd0.cells.toList[j]? = some u → (w8.alloc (.cells nd0.cells 49)).cell? (Addr.add ⟨w8.heap.size, 0, none⟩ j) = some u := by
            intro j u hu
            rw [Addr.add_lit, Nat.zero_add, (Blk.new w8 49 nd0.cells).cell, ← Array.getElem?_toList]
            exact hu
          have hone : ∀ u ∈ nd0.cells.toList, u.oneCell' = true := by
            intro u hu
            exact (Array.all_eq_true_iff_forall_mem.1 (node_one nd0)) u (by simpa using hu)
          have hGR : Hid (∀ g' c' w9, w9.ownsRow B 49 7 (.slice (some ⟨g', 0, none⟩) (n + 1) c') (n + 1) (flat ns7 ++ nd0.cells.toList) → (w8.alloc (.cells nd0.cells 49)).grownBy w9 (some g) → (some g = some g' ∨ g' = w8.heap.size + 1) →
              w9.cell? ⟨w.heap.size, 0, none⟩ = some (.slice (some ⟨g, 0, none⟩) n c7) ∧ w9.frozen? ⟨w.heap.size, 0, none⟩ = false ∧ Blk w9 (w.heap.size + 1) 32 (itL id vA vn vc tags) ∧
              ∃ W', PtS w (w9.setCell ⟨w.heap.size, 0, none⟩ (.slice (some ⟨g', 0, none⟩) (n + 1) c')) (w.heap.size + 1 + 1) B g' c' en tp W' hl (ns7 ++ [nd0])) := by
            intro g' c' w9 ho9 hg9 hat
            have hT : Tch (fun k => k = g) w8 w9 := ((Tch.refl (fun k => k = g) w8).alloc (.cells nd0.cells 49)).trans (⟨hg9.os, hg9.tape, hg9.output, hg9.size, fun k hk hn => hg9.block k hk (by intro e; injection e with e; exact hn e)⟩ : Tch (fun k => k = g) _ w9) (fun _ h => .inl h)
            have h9 := HPT0.out.grow hT (by rcases hat with e | e; · injection e with e; exact .inl e.symm
                                            · exact .inr (by omega)) (by rw [HN7.out]; exact ho9) (by rw [HN7.out]; omega)
            rw [HN7.out] at h9
            have hgB := HPT0.out.own.gB
            have hbB := HPT0.out.bB
            exact ⟨h9.1, h9.2.1, HK28.out.tch hT (by omega), h9.2.2⟩
          have HOWN := Lib.hid hown
          have HNEWS := Lib.hid hnews
          have HONE := Lib.hid hone
          have HBS : Hid (B ≤ (w8.alloc (.cells nd0.cells 49)).heap.size) := Nat.le_trans HPT0.out.bB.2.2 (bel_box _ _).size
          have HI := Lib.hid hi
          have HZ := Lib.hid hz
          have HZ1 := Lib.hid hz1
          have HZ2 := Lib.hid hz2
          clear hown hnews hone hi hz hz1 hz2
          go_upto_region 20 with (at_builtin; refine wpList_append_lies (w8.alloc (.cells nd0.cells 49)) rfl (.tmp 62) (.tmp 64) 25 rfl B 49 i _ 7 88 Try.underlying25 HI.out HZ.out HZ1.out HZ2.out rfl (by decide) (.slice (some ⟨g, 0, none⟩) n c7) n (flat ns7) rfl HOWN.out ⟨w8.heap.size, 0, none⟩ 1 1 nd0.cells.toList rfl rfl HNEWS.out HONE.out (by decide) (by unfold maxLen; omega) (by omega) HBS.out (w8.heap.size + 1) (by simp only [World.alloc, Array.size_push]) ?_; intro g' c' w9 ho9 hg9 hat hlt; obtain ⟨y0, f0, k29, hPT'⟩ := hGR.out g' c' w9 ho9 hg9 hat; have HK29 := Lib.hid k29; have HPT9 := Lib.hid hPT'; clear ho9 hg9 hat hlt k29 hPT')
          obtain ⟨W1, hPT1⟩ := HPT9.out
          obtain ⟨wS, hwS⟩ : ∃ x, w9.setCell ⟨w.heap.size, 0, none⟩ (.slice (some ⟨g', 0, none⟩) (n + 1) c') = x := ⟨_, rfl⟩
          have hk2s : Blk wS (w.heap.size + 1) 32 (itL id vA vn vc tags) := by rw [← hwS]; exact HK29.out.far (by show w.heap.size + 1 ≠ w.heap.size; omega) _
          rw [hwS] at hPT1
          simp only [hwS]
          clear hwS
          obtain ⟨ns1, hns1⟩ : ∃ x, ns7 ++ [nd0] = x := ⟨_, rfl⟩
          rw [hns1] at hPT1
          have HN1 : Hid (ns1.length = n + 1) := by show _ = _; rw [← hns1, List.length_append, HN7.out]; rfl
          have HEQ : Hid (Eqv (growN ns slot) ns1) := by
            show Eqv _ _
            unfold growN
            rw [if_pos (by rw [HL.out]; exact HSN.out), ← hns1]
            have := HE7.out
            unfold Eqv at this ⊢
            rw [List.map_append, List.map_append, this]
          have hsN : slot < n + 1 := by omega
          have HPT1 := Lib.hid hPT1
          have HK2S := Lib.hid hk2s
          clear hPT1 hk2s hns1 e5 e6 y0 f0 x0 HPT9 hGR HOWN HNEWS HONE HBS HI HZ HZ1 HZ2
          have q1 : wS.cell? ⟨w.heap.size + 1, 1, none⟩ = some (.slice vA vn vc) := HK2S.out.cell 1
          have x0 : wS.cell? ⟨w.heap.size, 0, none⟩ = some (.slice (some ⟨g', 0, none⟩) (n + 1) c') := by rw [← HN1.out]; exact HPT1.out.pl.cell 0
          have hVS := (HV.out.below HPT1.out.bel).more HPT1.out.bel.size
          have HCV := Lib.hid (sl_cloneV vA vn vc vxs wS hVS.2.2.1 hVS.2.1 hVS.1)
          have HVS := Lib.hid hVS
          have hN0 : 0 < (n + 1) := by omega
          clear hVS
          go_upto_region 22 with (go_at_call 24; (with_reducible refine HCV.out.mono ?_); rintro e w11 ⟨A11, c11, rfl, ho11, _, b11⟩; have HO11 := Lib.hid ho11; have HB11 := Lib.hid b11; have z1 : w11.cell? ⟨w.heap.size + 1, 1, none⟩ = some (.slice vA vn vc) := (HK2S.out.below b11 HK2S.out.lt).cell 1; have f1 : w11.frozen? ⟨w.heap.size + 1, 1, none⟩ = false := (HK2S.out.below b11 HK2S.out.lt).frozen 1; clear ho11 b11)
          obtain ⟨w12, hw12⟩ : ∃ x, w11.setCell ⟨w.heap.size + 1, 1, none⟩ (.slice A11 vn c11) = x := ⟨_, rfl⟩
          have hq12 : Tch (fun k => k = w.heap.size + 1) w11 w12 := by rw [← hw12]; exact Tch.setCell (S := fun k => k = w.heap.size + 1) (Tch.refl _ _) rfl _ _
          have hP12 := (HPT1.out.more HB11.out).off hq12 ⟨by omega, by omega⟩
          have k12 : Blk w12 (w.heap.size + 1) 32 (itL id A11 vn c11 tags) := by rw [← hw12]; exact (HK2S.out.below HB11.out HK2S.out.lt).set_ 1 _
          have hs12 : w12.heap.size = w11.heap.size := by rw [← hw12]; simp [World.setCell]
          have hv12 : IS.AtS w12 (fun k => wS.heap.size ≤ k ∧ k < w12.heap.size) .i32 ⟨A11, vn, c11, vxs⟩ := ((vec_own HO11.out HVS.out.2.1 HVS.out.2.2.2).tch hq12 (fun b hb => ⟨hb.2, by have := HK2S.out.lt; omega⟩)).mono fun b hb => ⟨hb.1, by omega⟩
          simp only [hw12]
          obtain ⟨hd, hhd, hhl⟩ := HHD.out
          rw [HL.out] at hhl
          have hdn1 : (nAt ns1 0).next = (hd : Int) := by
            have h1 := congrArg ND.next (HEQ.out.nAt 0)
            have h2 : nAt (growN ns slot) 0 = nAt ns 0 := by
              unfold growN
              split
              · unfold nAt; rw [List.getD_eq_getElem?_getD, List.getD_eq_getElem?_getD, List.getElem?_append_left (by rw [HL.out]; omega)]
              · rfl
            rw [h2] at h1
            exact h1.symm.trans hhd
          have hhN : hd < (n + 1) := by omega
          have hn1p : 0 < ns1.length := by rw [HN1.out]; omega
          have y5 : w12.cell? ⟨g', 5, none⟩ = some (.int .i64 (hd : Int)) := by
            have := hP12.own.row.cell (flat_get2 (getElem_nAt hn1p) 5 (by decide))
            rw [Nat.zero_mul, Nat.zero_add, hdn1] at this
            exact this
          have x12 : w12.cell? ⟨w.heap.size, 0, none⟩ = some (.slice (some ⟨g', 0, none⟩) (n + 1) c') := by rw [← HN1.out]; exact hP12.pl.cell 0
          have hLv : IntKind.i64.wrap (level + 1) = ((level.toNat + 1 : Nat) : Int) := by rw [IntWalk.i64_in _ (by omega)]; omega
          obtain ⟨W13, hW13⟩ : ∃ x, w12.drew.alloc (.cells (madeCells #[.slice none 0 0] (level.toNat + 1)) 23) = x := ⟨_, rfl⟩
          have b13 : Below w12.heap.size w12 W13 := by rw [← hW13]; exact (below_drewN (Below.refl _ w12) 1).alloc (Nat.le_refl _) _
          have MK13 : (Instr.makeSlice 47 (.int .i64 ((level.toNat + 1 : Nat) : Int)) (.int .i64 ((level.toNat + 1 : Nat) : Int))).run Try.prog w12.drew = .ok (.slice (some ⟨w12.drew.heap.size, 0, none⟩) (level.toNat + 1) (level.toNat + 1)) W13 := by rw [← hW13]; exact make_lists _ (by omega) _
          have hRw : Rw W13 w12.drew.heap.size 23 ((level.toNat + 1) * 1) ((List.replicate (level.toNat + 1) (⟨none, 0, 0, []⟩ : IS)).map IS.v) := by rw [← hW13]; exact made_rw _ _
          have hNil : ∀ (Z : World) (S : Nat → Prop), ∀ l ∈ List.replicate (level.toNat + 1) (⟨none, 0, 0, []⟩ : IS), l.AtS Z S .i64 ∧ l.n ≤ l.c := by
            intro Z S l hl
            rw [(List.mem_replicate.1 hl).2]
            exact ⟨⟨fun _ => ⟨rfl, rfl⟩, Nat.zero_le _, ⟨rfl, fun h => absurd h (by decide)⟩, (fun x hx => by cases hx)⟩, Nat.le_refl _⟩
          have hND := hP12.node b13 (i := slot) (by rw [HN1.out]; exact hsN) (d := ⟨id, ⟨A11, vn, c11, vxs⟩, tags, level, some ⟨w12.drew.heap.size, 0, none⟩, level.toNat + 1, level.toNat + 1, List.replicate (level.toNat + 1) ⟨none, 0, 0, []⟩, (hd : Int), 0⟩) (h := w12.drew.heap.size) (Nat.le_refl _)
            ⟨(hv12.tch (Tch.of_below (S := fun _ => False) b13) fun b hb => ⟨hb.2, fun h => h⟩).mono fun b hb => ⟨by have := b13.size; omega, .inl ⟨hb.2, fun hw => by have := HPT1.out.own.wB b hw; omega⟩⟩,
             fun e => (by cases e), (by show level.toNat + 1 ≤ _; omega), by simp, fun l hl => (hNil _ _ l hl).1, HID.out, (show (Lit.int .i64 level).wf = true from wf_i64 (by omega) (by omega)), (show (Lit.int .i64 (hd : Int)).wf = true from wf_i64 (by omega) (by omega)), rfl, fun l hl => (hNil W13 (fun _ => True) l hl).2⟩
            ⟨rfl, Nat.le_refl _, hRw⟩
          obtain ⟨hth, W', hl', hP14⟩ := hND
          have SN14 : (Instr.storeAt 49 (.pointer (some ⟨g', 0 + slot * 7, none⟩)) (.agg #[.int .u64 id, .slice A11 vn c11, .int .u64 tags, .int .i64 level, .slice (some ⟨w12.drew.heap.size, 0, none⟩) (level.toNat + 1) (level.toNat + 1), .int .i64 (hd : Int), .int .i64 0])).run Try.prog W13 = .ok () (W13.setCells g' (slot * 7) (ND.cells ⟨id, ⟨A11, vn, c11, vxs⟩, tags, level, some ⟨w12.drew.heap.size, 0, none⟩, level.toNat + 1, level.toNat + 1, List.replicate (level.toNat + 1) ⟨none, 0, 0, []⟩, (hd : Int), 0⟩).toList) := by
            rw [Nat.zero_add]
            exact run_storeAt_mid W13 g' (slot * 7) 49 (ND.cells ⟨id, ⟨A11, vn, c11, vxs⟩, tags, level, some ⟨w12.drew.heap.size, 0, none⟩, level.toNat + 1, level.toNat + 1, List.replicate (level.toNat + 1) ⟨none, 0, 0, []⟩, (hd : Int), 0⟩) hth nodeT (node_one _)
          obtain ⟨W14, hW14⟩ : ∃ x, W13.setCells g' (slot * 7) (ND.cells ⟨id, ⟨A11, vn, c11, vxs⟩, tags, level, some ⟨w12.drew.heap.size, 0, none⟩, level.toNat + 1, level.toNat + 1, List.replicate (level.toNat + 1) ⟨none, 0, 0, []⟩, (hd : Int), 0⟩).toList = x := ⟨_, rfl⟩
          rw [hW14] at SN14 hP14
          have hgB := HPT1.out.own.gB
          have hbB := HPT1.out.bB
          have k13 := k12.below b13 k12.lt
          have k14 : Blk W14 (w.heap.size + 1) 32 (itL id A11 vn c11 tags) := by rw [← hW14]; exact k13.tch (Tch.setCells (S := fun k => k = g') rfl _ _ _ (Tch.refl _ _)) (by omega)
          have hn2 : (ns1.set slot ⟨id, ⟨A11, vn, c11, vxs⟩, tags, level, some ⟨w12.drew.heap.size, 0, none⟩, level.toNat + 1, level.toNat + 1, List.replicate (level.toNat + 1) ⟨none, 0, 0, []⟩, (hd : Int), 0⟩).length = (n + 1) := by rw [List.length_set, HN1.out]
          have hs1 : 1 ≤ slot := hs1
          have hdn2 : (nAt (ns1.set slot ⟨id, ⟨A11, vn, c11, vxs⟩, tags, level, some ⟨w12.drew.heap.size, 0, none⟩, level.toNat + 1, level.toNat + 1, List.replicate (level.toNat + 1) ⟨none, 0, 0, []⟩, (hd : Int), 0⟩) 0).next = (hd : Int) := by
            rw [← hdn1]
            unfold nAt
            rw [List.getD_eq_getElem?_getD, List.getD_eq_getElem?_getD, List.getElem?_set_ne (by omega)]
          have y14 : W14.cell? ⟨g', 5, none⟩ = some (.int .i64 (hd : Int)) := by
            have := hP14.own.row.cell (flat_get2 (getElem_nAt (ns := ns1.set slot ⟨id, ⟨A11, vn, c11, vxs⟩, tags, level, some ⟨w12.drew.heap.size, 0, none⟩, level.toNat + 1, level.toNat + 1, List.replicate (level.toNat + 1) ⟨none, 0, 0, []⟩, (hd : Int), 0⟩) (i := 0) (by rw [hn2]; omega)) 5 (by decide))
            rw [Nat.zero_mul, Nat.zero_add, hdn2] at this
            exact this
          have x14 : W14.cell? ⟨w.heap.size, 0, none⟩ = some (.slice (some ⟨g', 0, none⟩) (n + 1) c') := by rw [← hn2]; exact hP14.pl.cell 0
          have S12 := Lib.hid (show w12.drew.cell? ⟨w.heap.size, 0, none⟩ = some (.slice (some ⟨g', 0, none⟩) (n + 1) c') ∧ Blk w12.drew (w.heap.size + 1) 32 (itL id A11 vn c11 tags) ∧ w12.drew.cell? ⟨g', 5, none⟩ = some (.int .i64 (hd : Int)) from ⟨x12, k12, y5⟩)
          have S13 := Lib.hid (show W13.cell? ⟨w.heap.size, 0, none⟩ = some (.slice (some ⟨g', 0, none⟩) (n + 1) c') ∧ Blk W13 (w.heap.size + 1) 32 (itL id A11 vn c11 tags) ∧ W13.cell? ⟨g', 5, none⟩ = some (.int .i64 (hd : Int)) from ⟨(b13.cell (p := ⟨w.heap.size, 0, none⟩) hP12.pl.lt).trans x12, k13, (b13.cell (p := ⟨g', 5, none⟩) hP12.own.row.lt).trans y5⟩)
          have S14 := Lib.hid (show W14.cell? ⟨w.heap.size, 0, none⟩ = some (.slice (some ⟨g', 0, none⟩) (n + 1) c') ∧ Blk W14 (w.heap.size + 1) 32 (itL id A11 vn c11 tags) ∧ W14.cell? ⟨g', 5, none⟩ = some (.int .i64 (hd : Int)) from ⟨x14, k14, y14⟩)
          have hP14d : PtS w W14.drew (w.heap.size + 1 + 1) B g' c' en tp W' hl' (ns1.set slot ⟨id, ⟨A11, vn, c11, vxs⟩, tags, level, some ⟨w12.drew.heap.size, 0, none⟩, level.toNat + 1, level.toNat + 1, List.replicate (level.toNat + 1) ⟨none, 0, 0, []⟩, (hd : Int), 0⟩) := hP14.more (below_drewN (Below.refl _ W14) 1)
          obtain ⟨p1, p2, hP16⟩ := hP14d.prev (i := hd) (v := (slot : Int)) (by rw [hn2]; exact hhN) (wf_i64 (by omega) (by omega))
          have SN16 : (Instr.storeAt 3 (.pointer (some ⟨g', 0 + hd * 7 + 6, none⟩)) (.int .i64 (slot : Int))).run Try.prog W14.drew = .ok () (W14.drew.setCell ⟨g', hd * 7 + 6, none⟩ (.int .i64 (slot : Int))) := by
            rw [Nat.zero_add]
            simp [go_sem, p1, p2]
          have S15 := Lib.hid (show W14.drew.cell? ⟨w.heap.size, 0, none⟩ = some (.slice (some ⟨g', 0, none⟩) (n + 1) c') ∧ W14.drew.cell? ⟨g', 5, none⟩ = some (.int .i64 (hd : Int)) from ⟨x14, y14⟩)
          obtain ⟨W16, hW16⟩ : ∃ x, W14.drew.setCell ⟨g', hd * 7 + 6, none⟩ (.int .i64 (slot : Int)) = x := ⟨_, rfl⟩
          rw [hW16] at SN16 hP16
          have hn3 : ((ns1.set slot ⟨id, ⟨A11, vn, c11, vxs⟩, tags, level, some ⟨w12.drew.heap.size, 0, none⟩, level.toNat + 1, level.toNat + 1, List.replicate (level.toNat + 1) ⟨none, 0, 0, []⟩, (hd : Int), 0⟩).set hd { nAt (ns1.set slot ⟨id, ⟨A11, vn, c11, vxs⟩, tags, level, some ⟨w12.drew.heap.size, 0, none⟩, level.toNat + 1, level.toNat + 1, List.replicate (level.toNat + 1) ⟨none, 0, 0, []⟩, (hd : Int), 0⟩) hd with prev := (slot : Int) }).length = (n + 1) := by rw [List.length_set, hn2]
          have x16 : W16.cell? ⟨w.heap.size, 0, none⟩ = some (.slice (some ⟨g', 0, none⟩) (n + 1) c') := by rw [← hn3]; exact hP16.pl.cell 0
          have y16 : W16.cell? ⟨g', 5, none⟩ = some (.int .i64 (hd : Int)) := by
            rw [← hW16]
            rw [World.cell?_setCell_other _ _ _ _ (by intro e; injection e with _ e; omega)]
            exact y14
          have S16 := Lib.hid (show W16.cell? ⟨w.heap.size, 0, none⟩ = some (.slice (some ⟨g', 0, none⟩) (n + 1) c') ∧ W16.cell? ⟨g', 5, none⟩ = some (.int .i64 (hd : Int)) from ⟨x16, y16⟩)
          obtain ⟨p3, p4, hP17⟩ := hP16.next (i := 0) (v := (slot : Int)) (by rw [hn3]; omega) (wf_i64 (by omega) (by omega))
          rw [Nat.zero_mul, Nat.zero_add] at p3 p4 hP17
          have hFE : Eqv (putSt ns slot (putND ns id vn vxs tags level)) (((ns1.set slot ⟨id, ⟨A11, vn, c11, vxs⟩, tags, level, some ⟨w12.drew.heap.size, 0, none⟩, level.toNat + 1, level.toNat + 1, List.replicate (level.toNat + 1) ⟨none, 0, 0, []⟩, (hd : Int), 0⟩).set hd { nAt (ns1.set slot ⟨id, ⟨A11, vn, c11, vxs⟩, tags, level, some ⟨w12.drew.heap.size, 0, none⟩, level.toNat + 1, level.toNat + 1, List.replicate (level.toNat + 1) ⟨none, 0, 0, []⟩, (hd : Int), 0⟩) hd with prev := (slot : Int) }).set 0 { nAt ((ns1.set slot ⟨id, ⟨A11, vn, c11, vxs⟩, tags, level, some ⟨w12.drew.heap.size, 0, none⟩, level.toNat + 1, level.toNat + 1, List.replicate (level.toNat + 1) ⟨none, 0, 0, []⟩, (hd : Int), 0⟩).set hd { nAt (ns1.set slot ⟨id, ⟨A11, vn, c11, vxs⟩, tags, level, some ⟨w12.drew.heap.size, 0, none⟩, level.toNat + 1, level.toNat + 1, List.replicate (level.toNat + 1) ⟨none, 0, 0, []⟩, (hd : Int), 0⟩) hd with prev := (slot : Int) }) 0 with next := (slot : Int) }) := by
            unfold putSt
            rw [hhd, Int.toNat_natCast]
            refine linkN_eqv (HEQ.out.set slot ?_) hd slot
            unfold putND ND.norm IS.norm
            rw [hhd]
          obtain ⟨ns9, hns9⟩ : ∃ x, (((ns1.set slot ⟨id, ⟨A11, vn, c11, vxs⟩, tags, level, some ⟨w12.drew.heap.size, 0, none⟩, level.toNat + 1, level.toNat + 1, List.replicate (level.toNat + 1) ⟨none, 0, 0, []⟩, (hd : Int), 0⟩).set hd { nAt (ns1.set slot ⟨id, ⟨A11, vn, c11, vxs⟩, tags, level, some ⟨w12.drew.heap.size, 0, none⟩, level.toNat + 1, level.toNat + 1, List.replicate (level.toNat + 1) ⟨none, 0, 0, []⟩, (hd : Int), 0⟩) hd with prev := (slot : Int) }).set 0 { nAt ((ns1.set slot ⟨id, ⟨A11, vn, c11, vxs⟩, tags, level, some ⟨w12.drew.heap.size, 0, none⟩, level.toNat + 1, level.toNat + 1, List.replicate (level.toNat + 1) ⟨none, 0, 0, []⟩, (hd : Int), 0⟩).set hd { nAt (ns1.set slot ⟨id, ⟨A11, vn, c11, vxs⟩, tags, level, some ⟨w12.drew.heap.size, 0, none⟩, level.toNat + 1, level.toNat + 1, List.replicate (level.toNat + 1) ⟨none, 0, 0, []⟩, (hd : Int), 0⟩) hd with prev := (slot : Int) }) 0 with next := (slot : Int) }) = x := ⟨_, rfl⟩
          rw [hns9] at hP17 hFE
          have hn9 : ns9.length = (n + 1) := by rw [← hns9, List.length_set, hn3]
          obtain ⟨W17, hW17⟩ : ∃ x, W16.setCell ⟨g', 5, none⟩ (.int .i64 (slot : Int)) = x := ⟨_, rfl⟩
          rw [hW17] at hP17
          have LP17 := plane_load hP17.pl
          have SR17 := row_store hP17.res (pgL (some ⟨g', 0, none⟩) ns9.length c' en tp) rfl planeT (by simp [pgL, Value.oneCell'])
          have HFI := Lib.hid (hP17.fin (en := en) (tp := tp) hP17.res)
          rw [hn9] at LP17 SR17 HFI
          obtain ⟨W18, hW18⟩ : ∃ x, W17.setCells (w.heap.size + 1 + 1) 0 (pgL (some ⟨g', 0, none⟩) (n + 1) c' en tp).toList = x := ⟨_, rfl⟩
          rw [hW18] at SR17 HFI
          have HFE := Lib.hid hFE
          have HY5 := Lib.hid p3
          have HF5 := Lib.hid p4
          have HW13 := Lib.hid hW13
          have HW16 := Lib.hid hW16
          have HW17 := Lib.hid hW17
          clear hW18 hn9 hns9 hP17 hP16 hP14 hP14d hn3 hn2 x16 y16 p1 p2 p3 p4 x14 y14 k14 k13 hth hW14 hRw hNil b13 x12 y5 k12 hv12 hP12 hq12 hs12 hw12 hdn1 hdn2 hhd hn1p x0 q1 z1 f1 HCV hW13 hW16 hW17 hFE HK2S
          refine wp_region_held_drew (S := fun w' => w'.cell? ⟨w.heap.size, 0, none⟩ = some (.slice (some ⟨g', 0, none⟩) (n + 1) c') ∧ Blk w' (w.heap.size + 1) 32 (itL id A11 vn c11 tags) ∧ w'.cell? ⟨g', 5, none⟩ = some (.int .i64 (hd : Int))) (by kernel_rfl) S12.out (fun hH => ?_)
          refine wpAnyH_take (i := 0) (v := .pointer (some ⟨w.heap.size, 0, none⟩)) rfl (by kernel_rfl) (by kernel_rfl) (by kernel_rfl) (fun _ _ _ h => h) (.inl ⟨by rfl, fun _ _ => by kernel_rfl⟩) hH ?_
          (try simp only [List.getElem_toArray, List.getElem_cons_zero, Act.put, List.setIfInBounds_toArray, List.set_cons_zero, List.set_cons_succ])
          refine wpAnyH_take (i := 1) (v := .slice (some ⟨g', 0, none⟩) (n + 1) c') rfl (by kernel_rfl) (by kernel_rfl) (by kernel_rfl) (fun _ _ _ h => h) (yieldsIf_loadP (by rfl) _ rfl rfl (fun _ q => load_nodes q.1)) hH ?_
          (try simp only [List.getElem_toArray, List.getElem_cons_zero, List.getElem_cons_succ, Act.put, List.setIfInBounds_toArray, List.set_cons_zero, List.set_cons_succ])
          refine wpAnyH_take (i := 2) (v := .int .i64 (slot : Int)) rfl (by kernel_rfl) (by kernel_rfl) (by kernel_rfl) (fun _ _ _ h => h) (.inl ⟨by rfl, fun _ _ => by kernel_rfl⟩) hH ?_
          (try simp only [List.getElem_toArray, List.getElem_cons_zero, List.getElem_cons_succ, Act.put, List.setIfInBounds_toArray, List.set_cons_zero, List.set_cons_succ])
          refine wpAnyH_take (i := 3) (v := .agg (itL id A11 vn c11 tags)) rfl (by kernel_rfl) (by kernel_rfl) (by kernel_rfl) (fun _ _ _ h => h) (yieldsIf_loadP (by rfl) _ rfl rfl (fun _ q => item_load q.2.1)) hH ?_
          (try simp only [List.getElem_toArray, List.getElem_cons_zero, List.getElem_cons_succ, Act.put, List.setIfInBounds_toArray, List.set_cons_zero, List.set_cons_succ])
          refine wpAnyH_take (i := 4) (v := .int .i64 level) rfl (by kernel_rfl) (by kernel_rfl) (by kernel_rfl) (fun _ _ _ h => h) (.inl ⟨by rfl, fun _ _ => by kernel_rfl⟩) hH ?_
          (try simp only [List.getElem_toArray, List.getElem_cons_zero, List.getElem_cons_succ, Act.put, List.setIfInBounds_toArray, List.set_cons_zero, List.set_cons_succ])
          refine wpAnyH_take (i := 5) (v := .int .i64 level) rfl (by kernel_rfl) (by kernel_rfl) (by kernel_rfl) (fun _ _ _ h => h) (.inl ⟨by rfl, fun _ _ => by kernel_rfl⟩) hH ?_
          (try simp only [List.getElem_toArray, List.getElem_cons_zero, List.getElem_cons_succ, Act.put, List.setIfInBounds_toArray, List.set_cons_zero, List.set_cons_succ])
          refine wpAnyH_take (i := 6) (v := .int .i64 (((level.toNat + 1) : Nat) : Int)) rfl (by kernel_rfl) (by kernel_rfl) (by kernel_rfl) (fun _ _ _ h => h) (yieldsIf_addR (by rfl) _ _ rfl rfl rfl hLv) hH ?_
          (try simp only [List.getElem_toArray, List.getElem_cons_zero, List.getElem_cons_succ, Act.put, List.setIfInBounds_toArray, List.set_cons_zero, List.set_cons_succ])
          refine wpAnyH_take (i := 8) (v := .pointer (some ⟨g', 0, none⟩)) rfl (by kernel_rfl) (by kernel_rfl) (by kernel_rfl) (fun _ _ _ h => h) (.inl ⟨by rfl, fun _ _ => by kernel_rfl⟩) hH ?_
          (try simp only [List.getElem_toArray, List.getElem_cons_zero, List.getElem_cons_succ, Act.put, List.setIfInBounds_toArray, List.set_cons_zero, List.set_cons_succ])
          refine wpAnyH_take (i := 9) (v := .pointer (some ⟨g', 0, none⟩)) rfl (by kernel_rfl) (by kernel_rfl) (by kernel_rfl) (fun _ _ _ h => h) (.inl ⟨by rfl, fun _ _ => by kernel_rfl⟩) hH ?_
          (try simp only [List.getElem_toArray, List.getElem_cons_zero, List.getElem_cons_succ, Act.put, List.setIfInBounds_toArray, List.set_cons_zero, List.set_cons_succ])
          refine wpAnyH_take (i := 10) (v := .pointer (some ⟨g', 5, none⟩)) rfl (by kernel_rfl) (by kernel_rfl) (by kernel_rfl) (fun _ _ _ h => h) (.inl ⟨by rfl, fun _ _ => by kernel_rfl⟩) hH ?_
          (try simp only [List.getElem_toArray, List.getElem_cons_zero, List.getElem_cons_succ, Act.put, List.setIfInBounds_toArray, List.set_cons_zero, List.set_cons_succ])
          refine wpAnyH_take (i := 11) (v := .int .i64 (hd : Int)) rfl (by kernel_rfl) (by kernel_rfl) (by kernel_rfl) (fun _ _ _ h => h) (yieldsIf_loadP (by rfl) _ rfl rfl (fun _ q => load_i64 q.2.2)) hH ?_
          (try simp only [List.getElem_toArray, List.getElem_cons_zero, List.getElem_cons_succ, Act.put, List.setIfInBounds_toArray, List.set_cons_zero, List.set_cons_succ])
          refine wpAnyH_make 7 (.slice (some ⟨w12.drew.heap.size, 0, none⟩) (level.toNat + 1) (level.toNat + 1)) (by kernel_rfl) (by rfl) (by kernel_rfl) (exec_make (by rfl) (by rfl) (by rfl) MK13) S13.out ?_
          (try simp only [List.getElem_toArray, List.getElem_cons_zero, List.getElem_cons_succ, Act.put, List.setIfInBounds_toArray, List.set_cons_zero, List.set_cons_succ])
          refine wpAnyH_take (i := 12) (v := .agg #[.int .u64 id, .slice A11 vn c11, .int .u64 tags, .int .i64 level, .slice (some ⟨w12.drew.heap.size, 0, none⟩) (level.toNat + 1) (level.toNat + 1), .int .i64 (hd : Int), .int .i64 0]) rfl (by kernel_rfl) (by kernel_rfl) (by kernel_rfl) (fun _ _ _ h => h) (.inl ⟨by rfl, fun _ _ => by kernel_rfl⟩) S13.out ?_
          (try simp only [List.getElem_toArray, List.getElem_cons_zero, List.getElem_cons_succ, Act.put, List.setIfInBounds_toArray, List.set_cons_zero, List.set_cons_succ])
          refine wpAnyH_take (i := 13) (v := .pointer (some ⟨g', 0 + slot * 7, none⟩)) rfl (by kernel_rfl) (by kernel_rfl) (by kernel_rfl) (fun _ _ _ h => h) (yieldsIf_index Try.underlying25 sz_node (by rfl) _ _ rfl rfl rfl hsN) S13.out ?_
          (try simp only [List.getElem_toArray, List.getElem_cons_zero, List.getElem_cons_succ, Act.put, List.setIfInBounds_toArray, List.set_cons_zero, List.set_cons_succ])
          refine wpAnyH_store 14 _ _ _ (by kernel_rfl) (by rfl) (by kernel_rfl) (by rfl) (by rfl) (by rfl) (SN14) (S14.out) ?_
          refine wpAnyH_done (by kernel_rfl) ?_ _

          clear hH
          go_upto_region 23 with fail
          refine wp_region_held_drew (S := fun w' => w'.cell? ⟨w.heap.size, 0, none⟩ = some (.slice (some ⟨g', 0, none⟩) (n + 1) c') ∧ w'.cell? ⟨g', 5, none⟩ = some (.int .i64 (hd : Int))) (by kernel_rfl) S15.out (fun hH => ?_)
          refine wpAnyH_take (i := 0) (v := .pointer (some ⟨w.heap.size, 0, none⟩)) rfl (by kernel_rfl) (by kernel_rfl) (by kernel_rfl) (fun _ _ _ h => h) (.inl ⟨by rfl, fun _ _ => by kernel_rfl⟩) hH ?_
          (try simp only [List.getElem_toArray, List.getElem_cons_zero, Act.put, List.setIfInBounds_toArray])
          refine wpAnyH_take (i := 1) (v := .slice (some ⟨g', 0, none⟩) (n + 1) c') rfl (by kernel_rfl) (by kernel_rfl) (by kernel_rfl) (fun _ _ _ h => h) (yieldsIf_loadP (by rfl) _ rfl rfl (fun _ q => load_nodes q.1)) hH ?_
          (try simp only [List.getElem_toArray, List.getElem_cons_zero, List.getElem_cons_succ, Act.put, List.setIfInBounds_toArray, List.set_cons_zero, List.set_cons_succ])
          refine wpAnyH_take (i := 2) (v := .pointer (some ⟨g', 0, none⟩)) rfl (by kernel_rfl) (by kernel_rfl) (by kernel_rfl) (fun _ _ _ h => h) (.inl ⟨by rfl, fun _ _ => by kernel_rfl⟩) hH ?_
          (try simp only [List.getElem_toArray, List.getElem_cons_zero, List.getElem_cons_succ, Act.put, List.setIfInBounds_toArray, List.set_cons_zero, List.set_cons_succ])
          refine wpAnyH_take (i := 3) (v := .pointer (some ⟨g', 0, none⟩)) rfl (by kernel_rfl) (by kernel_rfl) (by kernel_rfl) (fun _ _ _ h => h) (.inl ⟨by rfl, fun _ _ => by kernel_rfl⟩) hH ?_
          (try simp only [List.getElem_toArray, List.getElem_cons_zero, List.getElem_cons_succ, Act.put, List.setIfInBounds_toArray, List.set_cons_zero, List.set_cons_succ])
          refine wpAnyH_take (i := 4) (v := .pointer (some ⟨g', 5, none⟩)) rfl (by kernel_rfl) (by kernel_rfl) (by kernel_rfl) (fun _ _ _ h => h) (.inl ⟨by rfl, fun _ _ => by kernel_rfl⟩) hH ?_
          (try simp only [List.getElem_toArray, List.getElem_cons_zero, List.getElem_cons_succ, Act.put, List.setIfInBounds_toArray, List.set_cons_zero, List.set_cons_succ])
          refine wpAnyH_take (i := 5) (v := .int .i64 (hd : Int)) rfl (by kernel_rfl) (by kernel_rfl) (by kernel_rfl) (fun _ _ _ h => h) (yieldsIf_loadP (by rfl) _ rfl rfl (fun _ q => load_i64 q.2)) hH ?_
          (try simp only [List.getElem_toArray, List.getElem_cons_zero, List.getElem_cons_succ, Act.put, List.setIfInBounds_toArray, List.set_cons_zero, List.set_cons_succ])
          refine wpAnyH_take (i := 6) (v := .int .i64 (slot : Int)) rfl (by kernel_rfl) (by kernel_rfl) (by kernel_rfl) (fun _ _ _ h => h) (.inl ⟨by rfl, fun _ _ => by kernel_rfl⟩) hH ?_
          (try simp only [List.getElem_toArray, List.getElem_cons_zero, List.getElem_cons_succ, Act.put, List.setIfInBounds_toArray, List.set_cons_zero, List.set_cons_succ])
          refine wpAnyH_take (i := 7) (v := .pointer (some ⟨g', 0 + hd * 7, none⟩)) rfl (by kernel_rfl) (by kernel_rfl) (by kernel_rfl) (fun _ _ _ h => h) (yieldsIf_index Try.underlying25 sz_node (by rfl) _ _ rfl rfl rfl hhN) hH ?_
          (try simp only [List.getElem_toArray, List.getElem_cons_zero, List.getElem_cons_succ, Act.put, List.setIfInBounds_toArray, List.set_cons_zero, List.set_cons_succ])
          refine wpAnyH_take (i := 8) (v := .pointer (some ⟨g', 0 + hd * 7 + 6, none⟩)) rfl (by kernel_rfl) (by kernel_rfl) (by kernel_rfl) (fun _ _ _ h => h) (.inl ⟨by rfl, fun _ _ => by kernel_rfl⟩) hH ?_
          (try simp only [List.getElem_toArray, List.getElem_cons_zero, List.getElem_cons_succ, Act.put, List.setIfInBounds_toArray, List.set_cons_zero, List.set_cons_succ])
          refine wpAnyH_store 9 _ _ _ (by kernel_rfl) (by rfl) (by kernel_rfl) (by rfl) (by rfl) (by rfl) (SN16) (S16.out) ?_
          refine wpAnyH_done (by kernel_rfl) ?_ _

          clear hH
          obtain ⟨u5, hu5⟩ : ∃ u, W16.cell? ⟨g', 5, none⟩ = some u := ⟨_, HY5.out⟩
          have hf5 := HF5.out
          go_upto_region 25 with fail
          simp only [HW17.out]
          clear hu5 hf5
          unfold pgL at LP17 SR17
          go_wp2_with (first | ((with_reducible refine wpList_loadE (op := ⟨some 101, _, _, _, _, _⟩) LP17 ?leX ?leG ?leO ?leE ?_); (case leO => exact rfl); (case leE => exact rfl); (case leG => exact rfl)) | refine wpList_storeE SR17 _ _ rfl rfl rfl rfl ?_)
          refine bodyPost_ret (v := .tuple #[.agg (pgL (some ⟨g', 0, none⟩) (n + 1) c' en tp), .int .i64 (slot : Int), .int .i64 0]) ?_ rfl (.inr ⟨HY.out, g', (n + 1), c', ns9, by rw [HSL.out], HFI.out.2.1, by rw [HSL.out]; exact HFE.out, HFI.out.2.2⟩)
          exact results_row12 Try.results7 _ rfl HFI.out.1 Try.underlying27 rfl planeT
        · have e5 : ((slot : Int) == (n : Int)) = false := beq_false_of_ne (by omega)
          have e6 : (slot == n) = false := beq_false_of_ne hsn
          go_upto_region 20 with fail
          have HN1 : Hid (ns7.length = n) := HN7
          have HEQ : Hid (Eqv (growN ns slot) ns7) := by
            show Eqv _ _
            unfold growN
            rw [if_neg (by rw [HL.out]; exact hsn)]
            exact HE7.out
          have hsN : slot < n := by omega
          have HPT1 := HPT0
          have HK2S := HK28
          clear e5 e6 hsn x0 HPT0 HK28
          have q1 : w8.cell? ⟨w.heap.size + 1, 1, none⟩ = some (.slice vA vn vc) := HK2S.out.cell 1
          have x0 : w8.cell? ⟨w.heap.size, 0, none⟩ = some (.slice (some ⟨g, 0, none⟩) n c7) := by rw [← HN1.out]; exact HPT1.out.pl.cell 0
          have hVS := (HV.out.below HPT1.out.bel).more HPT1.out.bel.size
          have HCV := Lib.hid (sl_cloneV vA vn vc vxs w8 hVS.2.2.1 hVS.2.1 hVS.1)
          have HVS := Lib.hid hVS
          have hN0 : 0 < n := by omega
          clear hVS
          go_upto_region 22 with (go_at_call 24; (with_reducible refine HCV.out.mono ?_); rintro e w11 ⟨A11, c11, rfl, ho11, _, b11⟩; have HO11 := Lib.hid ho11; have HB11 := Lib.hid b11; have z1 : w11.cell? ⟨w.heap.size + 1, 1, none⟩ = some (.slice vA vn vc) := (HK2S.out.below b11 HK2S.out.lt).cell 1; have f1 : w11.frozen? ⟨w.heap.size + 1, 1, none⟩ = false := (HK2S.out.below b11 HK2S.out.lt).frozen 1; clear ho11 b11)
          obtain ⟨w12, hw12⟩ : ∃ x, w11.setCell ⟨w.heap.size + 1, 1, none⟩ (.slice A11 vn c11) = x := ⟨_, rfl⟩
          have hq12 : Tch (fun k => k = w.heap.size + 1) w11 w12 := by rw [← hw12]; exact Tch.setCell (S := fun k => k = w.heap.size + 1) (Tch.refl _ _) rfl _ _
          have hP12 := (HPT1.out.more HB11.out).off hq12 ⟨by omega, by omega⟩
          have k12 : Blk w12 (w.heap.size + 1) 32 (itL id A11 vn c11 tags) := by rw [← hw12]; exact (HK2S.out.below HB11.out HK2S.out.lt).set_ 1 _
          have hs12 : w12.heap.size = w11.heap.size := by rw [← hw12]; simp [World.setCell]
          have hv12 : IS.AtS w12 (fun k => w8.heap.size ≤ k ∧ k < w12.heap.size) .i32 ⟨A11, vn, c11, vxs⟩ := ((vec_own HO11.out HVS.out.2.1 HVS.out.2.2.2).tch hq12 (fun b hb => ⟨hb.2, by have := HK2S.out.lt; omega⟩)).mono fun b hb => ⟨hb.1, by omega⟩
          simp only [hw12]
          obtain ⟨hd, hhd, hhl⟩ := HHD.out
          rw [HL.out] at hhl
          have hdn1 : (nAt ns7 0).next = (hd : Int) := by
            have h1 := congrArg ND.next (HEQ.out.nAt 0)
            have h2 : nAt (growN ns slot) 0 = nAt ns 0 := by
              unfold growN
              split
              · unfold nAt; rw [List.getD_eq_getElem?_getD, List.getD_eq_getElem?_getD, List.getElem?_append_left (by rw [HL.out]; omega)]
              · rfl
            rw [h2] at h1
            exact h1.symm.trans hhd
          have hhN : hd < n := by omega
          have hn1p : 0 < ns7.length := by rw [HN1.out]; omega
          have y5 : w12.cell? ⟨g, 5, none⟩ = some (.int .i64 (hd : Int)) := by
            have := hP12.own.row.cell (flat_get2 (getElem_nAt hn1p) 5 (by decide))
            rw [Nat.zero_mul, Nat.zero_add, hdn1] at this
            exact this
          have x12 : w12.cell? ⟨w.heap.size, 0, none⟩ = some (.slice (some ⟨g, 0, none⟩) n c7) := by rw [← HN1.out]; exact hP12.pl.cell 0
          have hLv : IntKind.i64.wrap (level + 1) = ((level.toNat + 1 : Nat) : Int) := by rw [IntWalk.i64_in _ (by omega)]; omega
          obtain ⟨W13, hW13⟩ : ∃ x, w12.drew.alloc (.cells (madeCells #[.slice none 0 0] (level.toNat + 1)) 23) = x := ⟨_, rfl⟩
          have b13 : Below w12.heap.size w12 W13 := by rw [← hW13]; exact (below_drewN (Below.refl _ w12) 1).alloc (Nat.le_refl _) _
          have MK13 : (Instr.makeSlice 47 (.int .i64 ((level.toNat + 1 : Nat) : Int)) (.int .i64 ((level.toNat + 1 : Nat) : Int))).run Try.prog w12.drew = .ok (.slice (some ⟨w12.drew.heap.size, 0, none⟩) (level.toNat + 1) (level.toNat + 1)) W13 := by rw [← hW13]; exact make_lists _ (by omega) _
          have hRw : Rw W13 w12.drew.heap.size 23 ((level.toNat + 1) * 1) ((List.replicate (level.toNat + 1) (⟨none, 0, 0, []⟩ : IS)).map IS.v) := by rw [← hW13]; exact made_rw _ _
          have hNil : ∀ (Z : World) (S : Nat → Prop), ∀ l ∈ List.replicate (level.toNat + 1) (⟨none, 0, 0, []⟩ : IS), l.AtS Z S .i64 ∧ l.n ≤ l.c := by
            intro Z S l hl
            rw [(List.mem_replicate.1 hl).2]
            exact ⟨⟨fun _ => ⟨rfl, rfl⟩, Nat.zero_le _, ⟨rfl, fun h => absurd h (by decide)⟩, (fun x hx => by cases hx)⟩, Nat.le_refl _⟩
          have hND := hP12.node b13 (i := slot) (by rw [HN1.out]; exact hsN) (d := ⟨id, ⟨A11, vn, c11, vxs⟩, tags, level, some ⟨w12.drew.heap.size, 0, none⟩, level.toNat + 1, level.toNat + 1, List.replicate (level.toNat + 1) ⟨none, 0, 0, []⟩, (hd : Int), 0⟩) (h := w12.drew.heap.size) (Nat.le_refl _)
            ⟨(hv12.tch (Tch.of_below (S := fun _ => False) b13) fun b hb => ⟨hb.2, fun h => h⟩).mono fun b hb => ⟨by have := b13.size; omega, .inl ⟨hb.2, fun hw => by have := HPT1.out.own.wB b hw; omega⟩⟩,
             fun e => (by cases e), (by show level.toNat + 1 ≤ _; omega), by simp, fun l hl => (hNil _ _ l hl).1, HID.out, (show (Lit.int .i64 level).wf = true from wf_i64 (by omega) (by omega)), (show (Lit.int .i64 (hd : Int)).wf = true from wf_i64 (by omega) (by omega)), rfl, fun l hl => (hNil W13 (fun _ => True) l hl).2⟩
            ⟨rfl, Nat.le_refl _, hRw⟩
          obtain ⟨hth, W', hl', hP14⟩ := hND
          have SN14 : (Instr.storeAt 49 (.pointer (some ⟨g, 0 + slot * 7, none⟩)) (.agg #[.int .u64 id, .slice A11 vn c11, .int .u64 tags, .int .i64 level, .slice (some ⟨w12.drew.heap.size, 0, none⟩) (level.toNat + 1) (level.toNat + 1), .int .i64 (hd : Int), .int .i64 0])).run Try.prog W13 = .ok () (W13.setCells g (slot * 7) (ND.cells ⟨id, ⟨A11, vn, c11, vxs⟩, tags, level, some ⟨w12.drew.heap.size, 0, none⟩, level.toNat + 1, level.toNat + 1, List.replicate (level.toNat + 1) ⟨none, 0, 0, []⟩, (hd : Int), 0⟩).toList) := by
            rw [Nat.zero_add]
            exact run_storeAt_mid W13 g (slot * 7) 49 (ND.cells ⟨id, ⟨A11, vn, c11, vxs⟩, tags, level, some ⟨w12.drew.heap.size, 0, none⟩, level.toNat + 1, level.toNat + 1, List.replicate (level.toNat + 1) ⟨none, 0, 0, []⟩, (hd : Int), 0⟩) hth nodeT (node_one _)
          obtain ⟨W14, hW14⟩ : ∃ x, W13.setCells g (slot * 7) (ND.cells ⟨id, ⟨A11, vn, c11, vxs⟩, tags, level, some ⟨w12.drew.heap.size, 0, none⟩, level.toNat + 1, level.toNat + 1, List.replicate (level.toNat + 1) ⟨none, 0, 0, []⟩, (hd : Int), 0⟩).toList = x := ⟨_, rfl⟩
          rw [hW14] at SN14 hP14
          have hgB := HPT1.out.own.gB
          have hbB := HPT1.out.bB
          have k13 := k12.below b13 k12.lt
          have k14 : Blk W14 (w.heap.size + 1) 32 (itL id A11 vn c11 tags) := by rw [← hW14]; exact k13.tch (Tch.setCells (S := fun k => k = g) rfl _ _ _ (Tch.refl _ _)) (by omega)
          have hn2 : (ns7.set slot ⟨id, ⟨A11, vn, c11, vxs⟩, tags, level, some ⟨w12.drew.heap.size, 0, none⟩, level.toNat + 1, level.toNat + 1, List.replicate (level.toNat + 1) ⟨none, 0, 0, []⟩, (hd : Int), 0⟩).length = n := by rw [List.length_set, HN1.out]
          have hs1 : 1 ≤ slot := hs1
          have hdn2 : (nAt (ns7.set slot ⟨id, ⟨A11, vn, c11, vxs⟩, tags, level, some ⟨w12.drew.heap.size, 0, none⟩, level.toNat + 1, level.toNat + 1, List.replicate (level.toNat + 1) ⟨none, 0, 0, []⟩, (hd : Int), 0⟩) 0).next = (hd : Int) := by
            rw [← hdn1]
            unfold nAt
            rw [List.getD_eq_getElem?_getD, List.getD_eq_getElem?_getD, List.getElem?_set_ne (by omega)]
          have y14 : W14.cell? ⟨g, 5, none⟩ = some (.int .i64 (hd : Int)) := by
            have := hP14.own.row.cell (flat_get2 (getElem_nAt (ns := ns7.set slot ⟨id, ⟨A11, vn, c11, vxs⟩, tags, level, some ⟨w12.drew.heap.size, 0, none⟩, level.toNat + 1, level.toNat + 1, List.replicate (level.toNat + 1) ⟨none, 0, 0, []⟩, (hd : Int), 0⟩) (i := 0) (by rw [hn2]; omega)) 5 (by decide))
            rw [Nat.zero_mul, Nat.zero_add, hdn2] at this
            exact this
          have x14 : W14.cell? ⟨w.heap.size, 0, none⟩ = some (.slice (some ⟨g, 0, none⟩) n c7) := by rw [← hn2]; exact hP14.pl.cell 0
          have S12 := Lib.hid (show w12.drew.cell? ⟨w.heap.size, 0, none⟩ = some (.slice (some ⟨g, 0, none⟩) n c7) ∧ Blk w12.drew (w.heap.size + 1) 32 (itL id A11 vn c11 tags) ∧ w12.drew.cell? ⟨g, 5, none⟩ = some (.int .i64 (hd : Int)) from ⟨x12, k12, y5⟩)
          have S13 := Lib.hid (show W13.cell? ⟨w.heap.size, 0, none⟩ = some (.slice (some ⟨g, 0, none⟩) n c7) ∧ Blk W13 (w.heap.size + 1) 32 (itL id A11 vn c11 tags) ∧ W13.cell? ⟨g, 5, none⟩ = some (.int .i64 (hd : Int)) from ⟨(b13.cell (p := ⟨w.heap.size, 0, none⟩) hP12.pl.lt).trans x12, k13, (b13.cell (p := ⟨g, 5, none⟩) hP12.own.row.lt).trans y5⟩)
          have S14 := Lib.hid (show W14.cell? ⟨w.heap.size, 0, none⟩ = some (.slice (some ⟨g, 0, none⟩) n c7) ∧ Blk W14 (w.heap.size + 1) 32 (itL id A11 vn c11 tags) ∧ W14.cell? ⟨g, 5, none⟩ = some (.int .i64 (hd : Int)) from ⟨x14, k14, y14⟩)
          have hP14d : PtS w W14.drew (w.heap.size + 1 + 1) B g c7 en tp W' hl' (ns7.set slot ⟨id, ⟨A11, vn, c11, vxs⟩, tags, level, some ⟨w12.drew.heap.size, 0, none⟩, level.toNat + 1, level.toNat + 1, List.replicate (level.toNat + 1) ⟨none, 0, 0, []⟩, (hd : Int), 0⟩) := hP14.more (below_drewN (Below.refl _ W14) 1)
          obtain ⟨p1, p2, hP16⟩ := hP14d.prev (i := hd) (v := (slot : Int)) (by rw [hn2]; exact hhN) (wf_i64 (by omega) (by omega))
          have SN16 : (Instr.storeAt 3 (.pointer (some ⟨g, 0 + hd * 7 + 6, none⟩)) (.int .i64 (slot : Int))).run Try.prog W14.drew = .ok () (W14.drew.setCell ⟨g, hd * 7 + 6, none⟩ (.int .i64 (slot : Int))) := by
            rw [Nat.zero_add]
            simp [go_sem, p1, p2]
          have S15 := Lib.hid (show W14.drew.cell? ⟨w.heap.size, 0, none⟩ = some (.slice (some ⟨g, 0, none⟩) n c7) ∧ W14.drew.cell? ⟨g, 5, none⟩ = some (.int .i64 (hd : Int)) from ⟨x14, y14⟩)
          obtain ⟨W16, hW16⟩ : ∃ x, W14.drew.setCell ⟨g, hd * 7 + 6, none⟩ (.int .i64 (slot : Int)) = x := ⟨_, rfl⟩
          rw [hW16] at SN16 hP16
          have hn3 : ((ns7.set slot ⟨id, ⟨A11, vn, c11, vxs⟩, tags, level, some ⟨w12.drew.heap.size, 0, none⟩, level.toNat + 1, level.toNat + 1, List.replicate (level.toNat + 1) ⟨none, 0, 0, []⟩, (hd : Int), 0⟩).set hd { nAt (ns7.set slot ⟨id, ⟨A11, vn, c11, vxs⟩, tags, level, some ⟨w12.drew.heap.size, 0, none⟩, level.toNat + 1, level.toNat + 1, List.replicate (level.toNat + 1) ⟨none, 0, 0, []⟩, (hd : Int), 0⟩) hd with prev := (slot : Int) }).length = n := by rw [List.length_set, hn2]
          have x16 : W16.cell? ⟨w.heap.size, 0, none⟩ = some (.slice (some ⟨g, 0, none⟩) n c7) := by rw [← hn3]; exact hP16.pl.cell 0
          have y16 : W16.cell? ⟨g, 5, none⟩ = some (.int .i64 (hd : Int)) := by
            rw [← hW16]
            rw [World.cell?_setCell_other _ _ _ _ (by intro e; injection e with _ e; omega)]
            exact y14
          have S16 := Lib.hid (show W16.cell? ⟨w.heap.size, 0, none⟩ = some (.slice (some ⟨g, 0, none⟩) n c7) ∧ W16.cell? ⟨g, 5, none⟩ = some (.int .i64 (hd : Int)) from ⟨x16, y16⟩)
          obtain ⟨p3, p4, hP17⟩ := hP16.next (i := 0) (v := (slot : Int)) (by rw [hn3]; omega) (wf_i64 (by omega) (by omega))
          rw [Nat.zero_mul, Nat.zero_add] at p3 p4 hP17
          have hFE : Eqv (putSt ns slot (putND ns id vn vxs tags level)) (((ns7.set slot ⟨id, ⟨A11, vn, c11, vxs⟩, tags, level, some ⟨w12.drew.heap.size, 0, none⟩, level.toNat + 1, level.toNat + 1, List.replicate (level.toNat + 1) ⟨none, 0, 0, []⟩, (hd : Int), 0⟩).set hd { nAt (ns7.set slot ⟨id, ⟨A11, vn, c11, vxs⟩, tags, level, some ⟨w12.drew.heap.size, 0, none⟩, level.toNat + 1, level.toNat + 1, List.replicate (level.toNat + 1) ⟨none, 0, 0, []⟩, (hd : Int), 0⟩) hd with prev := (slot : Int) }).set 0 { nAt ((ns7.set slot ⟨id, ⟨A11, vn, c11, vxs⟩, tags, level, some ⟨w12.drew.heap.size, 0, none⟩, level.toNat + 1, level.toNat + 1, List.replicate (level.toNat + 1) ⟨none, 0, 0, []⟩, (hd : Int), 0⟩).set hd { nAt (ns7.set slot ⟨id, ⟨A11, vn, c11, vxs⟩, tags, level, some ⟨w12.drew.heap.size, 0, none⟩, level.toNat + 1, level.toNat + 1, List.replicate (level.toNat + 1) ⟨none, 0, 0, []⟩, (hd : Int), 0⟩) hd with prev := (slot : Int) }) 0 with next := (slot : Int) }) := by
            unfold putSt
            rw [hhd, Int.toNat_natCast]
            refine linkN_eqv (HEQ.out.set slot ?_) hd slot
            unfold putND ND.norm IS.norm
            rw [hhd]
          obtain ⟨ns9, hns9⟩ : ∃ x, (((ns7.set slot ⟨id, ⟨A11, vn, c11, vxs⟩, tags, level, some ⟨w12.drew.heap.size, 0, none⟩, level.toNat + 1, level.toNat + 1, List.replicate (level.toNat + 1) ⟨none, 0, 0, []⟩, (hd : Int), 0⟩).set hd { nAt (ns7.set slot ⟨id, ⟨A11, vn, c11, vxs⟩, tags, level, some ⟨w12.drew.heap.size, 0, none⟩, level.toNat + 1, level.toNat + 1, List.replicate (level.toNat + 1) ⟨none, 0, 0, []⟩, (hd : Int), 0⟩) hd with prev := (slot : Int) }).set 0 { nAt ((ns7.set slot ⟨id, ⟨A11, vn, c11, vxs⟩, tags, level, some ⟨w12.drew.heap.size, 0, none⟩, level.toNat + 1, level.toNat + 1, List.replicate (level.toNat + 1) ⟨none, 0, 0, []⟩, (hd : Int), 0⟩).set hd { nAt (ns7.set slot ⟨id, ⟨A11, vn, c11, vxs⟩, tags, level, some ⟨w12.drew.heap.size, 0, none⟩, level.toNat + 1, level.toNat + 1, List.replicate (level.toNat + 1) ⟨none, 0, 0, []⟩, (hd : Int), 0⟩) hd with prev := (slot : Int) }) 0 with next := (slot : Int) }) = x := ⟨_, rfl⟩
          rw [hns9] at hP17 hFE
          have hn9 : ns9.length = n := by rw [← hns9, List.length_set, hn3]
          obtain ⟨W17, hW17⟩ : ∃ x, W16.setCell ⟨g, 5, none⟩ (.int .i64 (slot : Int)) = x := ⟨_, rfl⟩
          rw [hW17] at hP17
          have LP17 := plane_load hP17.pl
          have SR17 := row_store hP17.res (pgL (some ⟨g, 0, none⟩) ns9.length c7 en tp) rfl planeT (by simp [pgL, Value.oneCell'])
          have HFI := Lib.hid (hP17.fin (en := en) (tp := tp) hP17.res)
          rw [hn9] at LP17 SR17 HFI
          obtain ⟨W18, hW18⟩ : ∃ x, W17.setCells (w.heap.size + 1 + 1) 0 (pgL (some ⟨g, 0, none⟩) n c7 en tp).toList = x := ⟨_, rfl⟩
          rw [hW18] at SR17 HFI
          have HFE := Lib.hid hFE
          have HY5 := Lib.hid p3
          have HF5 := Lib.hid p4
          have HW13 := Lib.hid hW13
          have HW16 := Lib.hid hW16
          have HW17 := Lib.hid hW17
          clear hW18 hn9 hns9 hP17 hP16 hP14 hP14d hn3 hn2 x16 y16 p1 p2 p3 p4 x14 y14 k14 k13 hth hW14 hRw hNil b13 x12 y5 k12 hv12 hP12 hq12 hs12 hw12 hdn1 hdn2 hhd hn1p x0 q1 z1 f1 HCV hW13 hW16 hW17 hFE HK2S
          refine wp_region_held_drew (S := fun w' => w'.cell? ⟨w.heap.size, 0, none⟩ = some (.slice (some ⟨g, 0, none⟩) n c7) ∧ Blk w' (w.heap.size + 1) 32 (itL id A11 vn c11 tags) ∧ w'.cell? ⟨g, 5, none⟩ = some (.int .i64 (hd : Int))) (by kernel_rfl) S12.out (fun hH => ?_)
          refine wpAnyH_take (i := 0) (v := .pointer (some ⟨w.heap.size, 0, none⟩)) rfl (by kernel_rfl) (by kernel_rfl) (by kernel_rfl) (fun _ _ _ h => h) (.inl ⟨by rfl, fun _ _ => by kernel_rfl⟩) hH ?_
          (try simp only [List.getElem_toArray, List.getElem_cons_zero, Act.put, List.setIfInBounds_toArray, List.set_cons_zero, List.set_cons_succ])
          refine wpAnyH_take (i := 1) (v := .slice (some ⟨g, 0, none⟩) n c7) rfl (by kernel_rfl) (by kernel_rfl) (by kernel_rfl) (fun _ _ _ h => h) (yieldsIf_loadP (by rfl) _ rfl rfl (fun _ q => load_nodes q.1)) hH ?_
          (try simp only [List.getElem_toArray, List.getElem_cons_zero, List.getElem_cons_succ, Act.put, List.setIfInBounds_toArray, List.set_cons_zero, List.set_cons_succ])
          refine wpAnyH_take (i := 2) (v := .int .i64 (slot : Int)) rfl (by kernel_rfl) (by kernel_rfl) (by kernel_rfl) (fun _ _ _ h => h) (.inl ⟨by rfl, fun _ _ => by kernel_rfl⟩) hH ?_
          (try simp only [List.getElem_toArray, List.getElem_cons_zero, List.getElem_cons_succ, Act.put, List.setIfInBounds_toArray, List.set_cons_zero, List.set_cons_succ])
          refine wpAnyH_take (i := 3) (v := .agg (itL id A11 vn c11 tags)) rfl (by kernel_rfl) (by kernel_rfl) (by kernel_rfl) (fun _ _ _ h => h) (yieldsIf_loadP (by rfl) _ rfl rfl (fun _ q => item_load q.2.1)) hH ?_
          (try simp only [List.getElem_toArray, List.getElem_cons_zero, List.getElem_cons_succ, Act.put, List.setIfInBounds_toArray, List.set_cons_zero, List.set_cons_succ])
          refine wpAnyH_take (i := 4) (v := .int .i64 level) rfl (by kernel_rfl) (by kernel_rfl) (by kernel_rfl) (fun _ _ _ h => h) (.inl ⟨by rfl, fun _ _ => by kernel_rfl⟩) hH ?_
          (try simp only [List.getElem_toArray, List.getElem_cons_zero, List.getElem_cons_succ, Act.put, List.setIfInBounds_toArray, List.set_cons_zero, List.set_cons_succ])
          refine wpAnyH_take (i := 5) (v := .int .i64 level) rfl (by kernel_rfl) (by kernel_rfl) (by kernel_rfl) (fun _ _ _ h => h) (.inl ⟨by rfl, fun _ _ => by kernel_rfl⟩) hH ?_
          (try simp only [List.getElem_toArray, List.getElem_cons_zero, List.getElem_cons_succ, Act.put, List.setIfInBounds_toArray, List.set_cons_zero, List.set_cons_succ])
          refine wpAnyH_take (i := 6) (v := .int .i64 (((level.toNat + 1) : Nat) : Int)) rfl (by kernel_rfl) (by kernel_rfl) (by kernel_rfl) (fun _ _ _ h => h) (yieldsIf_addR (by rfl) _ _ rfl rfl rfl hLv) hH ?_
          (try simp only [List.getElem_toArray, List.getElem_cons_zero, List.getElem_cons_succ, Act.put, List.setIfInBounds_toArray, List.set_cons_zero, List.set_cons_succ])
          refine wpAnyH_take (i := 8) (v := .pointer (some ⟨g, 0, none⟩)) rfl (by kernel_rfl) (by kernel_rfl) (by kernel_rfl) (fun _ _ _ h => h) (.inl ⟨by rfl, fun _ _ => by kernel_rfl⟩) hH ?_
          (try simp only [List.getElem_toArray, List.getElem_cons_zero, List.getElem_cons_succ, Act.put, List.setIfInBounds_toArray, List.set_cons_zero, List.set_cons_succ])
          refine wpAnyH_take (i := 9) (v := .pointer (some ⟨g, 0, none⟩)) rfl (by kernel_rfl) (by kernel_rfl) (by kernel_rfl) (fun _ _ _ h => h) (.inl ⟨by rfl, fun _ _ => by kernel_rfl⟩) hH ?_
          (try simp only [List.getElem_toArray, List.getElem_cons_zero, List.getElem_cons_succ, Act.put, List.setIfInBounds_toArray, List.set_cons_zero, List.set_cons_succ])
          refine wpAnyH_take (i := 10) (v := .pointer (some ⟨g, 5, none⟩)) rfl (by kernel_rfl) (by kernel_rfl) (by kernel_rfl) (fun _ _ _ h => h) (.inl ⟨by rfl, fun _ _ => by kernel_rfl⟩) hH ?_
          (try simp only [List.getElem_toArray, List.getElem_cons_zero, List.getElem_cons_succ, Act.put, List.setIfInBounds_toArray, List.set_cons_zero, List.set_cons_succ])
          refine wpAnyH_take (i := 11) (v := .int .i64 (hd : Int)) rfl (by kernel_rfl) (by kernel_rfl) (by kernel_rfl) (fun _ _ _ h => h) (yieldsIf_loadP (by rfl) _ rfl rfl (fun _ q => load_i64 q.2.2)) hH ?_
          (try simp only [List.getElem_toArray, List.getElem_cons_zero, List.getElem_cons_succ, Act.put, List.setIfInBounds_toArray, List.set_cons_zero, List.set_cons_succ])
          refine wpAnyH_make 7 (.slice (some ⟨w12.drew.heap.size, 0, none⟩) (level.toNat + 1) (level.toNat + 1)) (by kernel_rfl) (by rfl) (by kernel_rfl) (exec_make (by rfl) (by rfl) (by rfl) MK13) S13.out ?_
          (try simp only [List.getElem_toArray, List.getElem_cons_zero, List.getElem_cons_succ, Act.put, List.setIfInBounds_toArray, List.set_cons_zero, List.set_cons_succ])
          refine wpAnyH_take (i := 12) (v := .agg #[.int .u64 id, .slice A11 vn c11, .int .u64 tags, .int .i64 level, .slice (some ⟨w12.drew.heap.size, 0, none⟩) (level.toNat + 1) (level.toNat + 1), .int .i64 (hd : Int), .int .i64 0]) rfl (by kernel_rfl) (by kernel_rfl) (by kernel_rfl) (fun _ _ _ h => h) (.inl ⟨by rfl, fun _ _ => by kernel_rfl⟩) S13.out ?_
          (try simp only [List.getElem_toArray, List.getElem_cons_zero, List.getElem_cons_succ, Act.put, List.setIfInBounds_toArray, List.set_cons_zero, List.set_cons_succ])
          refine wpAnyH_take (i := 13) (v := .pointer (some ⟨g, 0 + slot * 7, none⟩)) rfl (by kernel_rfl) (by kernel_rfl) (by kernel_rfl) (fun _ _ _ h => h) (yieldsIf_index Try.underlying25 sz_node (by rfl) _ _ rfl rfl rfl hsN) S13.out ?_
          (try simp only [List.getElem_toArray, List.getElem_cons_zero, List.getElem_cons_succ, Act.put, List.setIfInBounds_toArray, List.set_cons_zero, List.set_cons_succ])
          refine wpAnyH_store 14 _ _ _ (by kernel_rfl) (by rfl) (by kernel_rfl) (by rfl) (by rfl) (by rfl) (SN14) (S14.out) ?_
          refine wpAnyH_done (by kernel_rfl) ?_ _

          clear hH
          go_upto_region 23 with fail
          refine wp_region_held_drew (S := fun w' => w'.cell? ⟨w.heap.size, 0, none⟩ = some (.slice (some ⟨g, 0, none⟩) n c7) ∧ w'.cell? ⟨g, 5, none⟩ = some (.int .i64 (hd : Int))) (by kernel_rfl) S15.out (fun hH => ?_)
          refine wpAnyH_take (i := 0) (v := .pointer (some ⟨w.heap.size, 0, none⟩)) rfl (by kernel_rfl) (by kernel_rfl) (by kernel_rfl) (fun _ _ _ h => h) (.inl ⟨by rfl, fun _ _ => by kernel_rfl⟩) hH ?_
          (try simp only [List.getElem_toArray, List.getElem_cons_zero, Act.put, List.setIfInBounds_toArray])
          refine wpAnyH_take (i := 1) (v := .slice (some ⟨g, 0, none⟩) n c7) rfl (by kernel_rfl) (by kernel_rfl) (by kernel_rfl) (fun _ _ _ h => h) (yieldsIf_loadP (by rfl) _ rfl rfl (fun _ q => load_nodes q.1)) hH ?_
          (try simp only [List.getElem_toArray, List.getElem_cons_zero, List.getElem_cons_succ, Act.put, List.setIfInBounds_toArray, List.set_cons_zero, List.set_cons_succ])
          refine wpAnyH_take (i := 2) (v := .pointer (some ⟨g, 0, none⟩)) rfl (by kernel_rfl) (by kernel_rfl) (by kernel_rfl) (fun _ _ _ h => h) (.inl ⟨by rfl, fun _ _ => by kernel_rfl⟩) hH ?_
          (try simp only [List.getElem_toArray, List.getElem_cons_zero, List.getElem_cons_succ, Act.put, List.setIfInBounds_toArray, List.set_cons_zero, List.set_cons_succ])
          refine wpAnyH_take (i := 3) (v := .pointer (some ⟨g, 0, none⟩)) rfl (by kernel_rfl) (by kernel_rfl) (by kernel_rfl) (fun _ _ _ h => h) (.inl ⟨by rfl, fun _ _ => by kernel_rfl⟩) hH ?_
          (try simp only [List.getElem_toArray, List.getElem_cons_zero, List.getElem_cons_succ, Act.put, List.setIfInBounds_toArray, List.set_cons_zero, List.set_cons_succ])
          refine wpAnyH_take (i := 4) (v := .pointer (some ⟨g, 5, none⟩)) rfl (by kernel_rfl) (by kernel_rfl) (by kernel_rfl) (fun _ _ _ h => h) (.inl ⟨by rfl, fun _ _ => by kernel_rfl⟩) hH ?_
          (try simp only [List.getElem_toArray, List.getElem_cons_zero, List.getElem_cons_succ, Act.put, List.setIfInBounds_toArray, List.set_cons_zero, List.set_cons_succ])
          refine wpAnyH_take (i := 5) (v := .int .i64 (hd : Int)) rfl (by kernel_rfl) (by kernel_rfl) (by kernel_rfl) (fun _ _ _ h => h) (yieldsIf_loadP (by rfl) _ rfl rfl (fun _ q => load_i64 q.2)) hH ?_
          (try simp only [List.getElem_toArray, List.getElem_cons_zero, List.getElem_cons_succ, Act.put, List.setIfInBounds_toArray, List.set_cons_zero, List.set_cons_succ])
          refine wpAnyH_take (i := 6) (v := .int .i64 (slot : Int)) rfl (by kernel_rfl) (by kernel_rfl) (by kernel_rfl) (fun _ _ _ h => h) (.inl ⟨by rfl, fun _ _ => by kernel_rfl⟩) hH ?_
          (try simp only [List.getElem_toArray, List.getElem_cons_zero, List.getElem_cons_succ, Act.put, List.setIfInBounds_toArray, List.set_cons_zero, List.set_cons_succ])
          refine wpAnyH_take (i := 7) (v := .pointer (some ⟨g, 0 + hd * 7, none⟩)) rfl (by kernel_rfl) (by kernel_rfl) (by kernel_rfl) (fun _ _ _ h => h) (yieldsIf_index Try.underlying25 sz_node (by rfl) _ _ rfl rfl rfl hhN) hH ?_
          (try simp only [List.getElem_toArray, List.getElem_cons_zero, List.getElem_cons_succ, Act.put, List.setIfInBounds_toArray, List.set_cons_zero, List.set_cons_succ])
          refine wpAnyH_take (i := 8) (v := .pointer (some ⟨g, 0 + hd * 7 + 6, none⟩)) rfl (by kernel_rfl) (by kernel_rfl) (by kernel_rfl) (fun _ _ _ h => h) (.inl ⟨by rfl, fun _ _ => by kernel_rfl⟩) hH ?_
          (try simp only [List.getElem_toArray, List.getElem_cons_zero, List.getElem_cons_succ, Act.put, List.setIfInBounds_toArray, List.set_cons_zero, List.set_cons_succ])
          refine wpAnyH_store 9 _ _ _ (by kernel_rfl) (by rfl) (by kernel_rfl) (by rfl) (by rfl) (by rfl) (SN16) (S16.out) ?_
          refine wpAnyH_done (by kernel_rfl) ?_ _

          clear hH
          obtain ⟨u5, hu5⟩ : ∃ u, W16.cell? ⟨g, 5, none⟩ = some u := ⟨_, HY5.out⟩
          have hf5 := HF5.out
          go_upto_region 25 with fail
          simp only [HW17.out]
          clear hu5 hf5
          unfold pgL at LP17 SR17
          go_wp2_with (first | ((with_reducible refine wpList_loadE (op := ⟨some 101, _, _, _, _, _⟩) LP17 ?leX ?leG ?leO ?leE ?_); (case leO => exact rfl); (case leE => exact rfl); (case leG => exact rfl)) | refine wpList_storeE SR17 _ _ rfl rfl rfl rfl ?_)
          refine bodyPost_ret (v := .tuple #[.agg (pgL (some ⟨g, 0, none⟩) n c7 en tp), .int .i64 (slot : Int), .int .i64 0]) ?_ rfl (.inr ⟨HY.out, g, n, c7, ns9, by rw [HSL.out], HFI.out.2.1, by rw [HSL.out]; exact HFE.out, HFI.out.2.2⟩)
          exact results_row12 Try.results7 _ rfl HFI.out.1 Try.underlying27 rfl planeT
end Go.Proofs.Ytckclflbcgblaaa
