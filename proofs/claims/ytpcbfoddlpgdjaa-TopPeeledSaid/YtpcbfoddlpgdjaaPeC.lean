/- The last of a node's neighbours, left out again and again: the law, and the walk of TopPeeled. Printed by genPeC.py out of PeC.frame. -/
import Derived.Test.YtpcbfoddlpgdjaaPeB
import Derived.Test.YtpcbfoddlpgdjaaRkJ
import Derived.Test.YtpcbfoddlpgdjaaEgW
namespace Go.Proofs.Ytpcbfoddlpgdjaa
open Go.RowKit
def itAt (its : List ItX) (z : Int) : ItX := its.getD (z - 1).toNat ⟨0, ⟨none, 0, 0, []⟩, 0⟩
def restL (its : List ItX) (l : List Int) : List ItX := l.map (itAt its)
theorem spEs_map (q : IS) (its : List ItX) : ∀ l : List Int, spEs q l (restL its l) = l.map fun z => spE q z (itAt its z)
  | [] => rfl
  | z :: l => congrArg (spE q z (itAt its z) :: ·) (spEs_map q its l)
/-- How it stands after some rounds. -/
structure PeI (q : IS) (its : List ItX) (n t : Nat) (l : List Int) (told : List Sp) : Prop where
  nd : l.Nodup
  rng : ∀ z ∈ l, 1 ≤ z ∧ z ≤ (n : Int)
  len : l.length + t = n
  tl : told.length = t
  ah : ∀ y, told[t - 1]? = some y → ∀ z ∈ l, ahB (spE q z (itAt its z)) y = true
def seqI (n : Nat) : List Int := (List.range n).map fun i : Nat => (i : Int) + 1
theorem seqI_succ (n : Nat) : seqI (n + 1) = seqI n ++ [(n : Int) + 1] := by unfold seqI; rw [List.range_succ, List.map_append]; rfl
theorem seqI_len (n : Nat) : (seqI n).length = n := by simp [seqI]
theorem PeI.start (q : IS) (its : List ItX) (n : Nat) : PeI q its n 0 (seqI n) [] := by
  refine ⟨?_, fun z hz => ?_, seqI_len n, rfl, fun y hy => by simp at hy⟩
  · unfold seqI
    refine List.pairwise_map.2 (List.nodup_range.imp ?_)
    intro a b hab
    omega
  · obtain ⟨i, hi, rfl⟩ := List.mem_map.1 hz
    have := List.mem_range.1 hi
    omega
theorem PeI.step {q : IS} {its : List ItX} {n t : Nat} {l : List Int} {told : List Sp} (h : PeI q its n t l told) (ht : t < n) {x : Sp} (hx : (sortSp (spEs q l (restL its l)))[l.length - 1]? = some x) :
    hasI l x.s = true ∧ (∀ y, told[t - 1]? = some y → ahB x y = true) ∧ PeI q its n (t + 1) (withoutI l x.s) (told ++ [x]) := by
  have hm : x ∈ spEs q l (restL its l) := sortSp_mem.1 (List.mem_of_getElem? hx)
  rw [spEs_map] at hm
  obtain ⟨z, hz, rfl⟩ := List.mem_map.1 hm
  have e1 : withoutI l z = l.erase z := by
    rw [h.nd.erase_eq_filter]
    rfl
  have hsub : ∀ z', z' ∈ withoutI l z → z' ∈ l ∧ z' ≠ z := by
    intro z' hz'
    unfold withoutI at hz'
    have := List.mem_filter.1 hz'
    exact ⟨this.1, by simpa using this.2⟩
  refine ⟨hasI_iff.2 hz, fun y hy => h.ah y hy z hz, ?_⟩
  show PeI q its n (t + 1) (withoutI l z) _
  refine ⟨h.nd.filter _, fun z' hz' => h.rng z' (hsub z' hz').1, ?_, by rw [List.length_append, h.tl]; rfl, fun y hy z' hz' => ?_⟩
  · rw [e1, List.length_erase_of_mem hz]
    have := h.len
    have := List.length_pos_of_mem hz
    omega
  · rw [Nat.add_sub_cancel, List.getElem?_append_right (by rw [h.tl]; exact Nat.le_refl _), h.tl, Nat.sub_self] at hy
    injection hy with hy
    subst hy
    obtain ⟨hzl, hne⟩ := hsub z' hz'
    have hm' : spE q z' (itAt its z') ∈ sortSp (spEs q l (restL its l)) := by
      rw [sortSp_mem, spEs_map]
      exact List.mem_map.2 ⟨z', hzl, rfl⟩
    obtain ⟨j, hj⟩ := List.mem_iff_getElem?.1 hm'
    have hjl : j < l.length := by
      have h1 := (List.getElem?_eq_some_iff.1 hj).1
      rw [sortSp_len, spEs_map, List.length_map] at h1
      exact h1
    have h2 := sortSp_at (i := j) (j := l.length - 1) (by omega) hj hx
    rw [ahB_false] at h2
    rw [ahB_iff]
    have h3 : (spE q z' (itAt its z')).s ≠ (spE q z (itAt its z)).s := hne
    omega
theorem flatS_appC (a b : List Sp) : flatS (a ++ b) = flatS a ++ flatS b := by unfold flatS; rw [List.map_append, List.flatten_append]
theorem own_apart {w : World} {B e n5 c5 t c7 : Nat} {A5 A7 : Option Addr} {l : List Int} {xs : List Value} (h5 : OwnI w B A5 n5 c5 l) (h7 : w.ownsRow B e 3 (.slice A7 t c7) t xs) (hne : ∀ b, A5 = some ⟨b, 0, none⟩ → A7 ≠ some ⟨b, 0, none⟩) :
    ∀ k, (Value.slice A5 n5 c5).ownBlock = some k → ¬ (some k = (Value.slice A7 t c7).ownBlock) := by
  intro k hk h
  rcases h5.row with ⟨rfl, _⟩ | ⟨g, rfl, _⟩
  · cases hk
  · injection hk with hk
    subst hk
    rcases h7.2 with ⟨q, _⟩ | ⟨g', cap, cur, q, _⟩
    · injection q with q1 _ _
      subst q1
      cases h
    · injection q with q1 _ _
      subst q1
      injection h with h
      subst h
      exact hne _ rfl rfl
def flatX (l : List ItX) : List Value := (l.map fun d => d.cells.toList).flatten
theorem flatX_app (a b : List ItX) : flatX (a ++ b) = flatX a ++ flatX b := by unfold flatX; rw [List.map_append, List.flatten_append]
theorem own_its {w : World} {base : Nat} {A : Option Addr} {n c : Nat} {l : List ItX} (h : w.ownsRow base 45 3 (.slice A n c) n (flatX l)) (hl : l.length = n) (hv : ∀ d ∈ l, d.vec.Vec w w.heap.size) : Its w w.heap.size A n l := by
  refine ⟨?_, hv⟩
  cases A with
  | none =>
    rcases h.2 with ⟨q, _⟩ | ⟨g, cap, cur, q, _⟩
    · injection q with q1 q2 q3
      subst q2 q3
      have : l = [] := List.eq_nil_of_length_eq_zero hl
      subst this
      exact Rs.nil_
    · cases q
  | some a =>
    rcases h.2 with ⟨q, _⟩ | ⟨g, cap, cur, q, _⟩
    · cases q
    · injection q with q1 q2 q3
      rw [q1] at h ⊢
      exact (Rs.of_own0 (css := l.map fun d => d.cells.toList) h (fun c hc => by obtain ⟨x, _, rfl⟩ := List.mem_map.1 hc; rfl) (by simpa using hl)).1
theorem info_itemX : (Try.prog.info? 45).map (fun i => (i.zero, i.size, i.bytes)) = some (some (.agg itx0), 3, 40) := by kernel_rfl
section
variable {P : Program} {ops : Array Oper} {S : World → Prop} {o : Oper} {a : Act} {t t' : TypeId} {k : IntKind} {m n : Int} {r : Bool}
theorem yieldsIf_gtrC (hr : decide (m > n) = r) (hw : Region.wanted o (yielded ops a.tmps) = true) (x y : Operand) (ho : o.op = .binOp .gtr t x y t') (hx : a.eval x = .int k m) (hy : a.eval y = .int k n) : YieldsIf P ops S o (.bool r) a := by
  refine .inl ⟨hw, fun w _ => ?_⟩
  unfold execOp
  simp only [ho, hx, hy]
  simp [go_sem, ← hr]
theorem yieldsIf_subC {z : Int} (hr : IntKind.i64.wrap (m - n) = z) (hw : Region.wanted o (yielded ops a.tmps) = true) (x y : Operand) (ho : o.op = .binOp .sub t x y t') (hx : a.eval x = .int .i64 m) (hy : a.eval y = .int .i64 n) : YieldsIf P ops S o (.int .i64 z) a := by
  refine .inl ⟨hw, fun w _ => ?_⟩
  unfold execOp
  simp only [ho, hx, hy]
  simp [go_sem, ← hr]
end
theorem load_i64C {w : World} {b o : Nat} {z : Int} (h : w.cell? ⟨b, o, none⟩ = some (.int .i64 z)) : (Instr.loadAt 3 (.pointer (some ⟨b, o, none⟩))).run Try.prog w = .ok (.int .i64 z) w := by
  simp [go_sem, h]
set_option maxRecDepth 100000 in
set_option maxHeartbeats 16000000 in
theorem peeled (q : IS) (A : Option Addr) (n c : Nat) (its : List ItX) (w : World) (hq : q.Vec w w.heap.size) (hI : Its w w.heap.size A n its) :
    Calls Try.prog 5 #[q.v, .slice A n c] w fun e w' => e = .returned (.bool true) ∧ Below w.heap.size w w' := by
  have HBG := Lib.hid (begins5 w)
  by_cases h40 : 40 < n
  · have t40 : decide ((n : Int) > 40) = true := decide_eq_true (by omega)
    clear hI hq h40
    go_enter Try.func5, Try.ntmps5
    go_wp2_with (go_at_call 18; (with_reducible refine HBG.out.mono ?_); rintro e w1 ⟨rfl, hb⟩; have HB1 := Lib.hid hb; clear hb)
    go_ret
    exact ⟨rfl, HB1.out⟩
  have t40 : decide ((n : Int) > 40) = false := decide_eq_false (by omega)
  have hn : n ≤ 40 := by omega
  have HI := Lib.hid hI
  have HQ := Lib.hid hq
  have HN := Lib.hid hn
  have HIL := Lib.hid hI.len
  clear hI hq h40
  go_enter Try.func5, Try.ntmps5
  go_wp2_with (go_at_call 18; (with_reducible refine HBG.out.mono ?_); rintro e w1 ⟨rfl, hb⟩; have HB1 := Lib.hid hb; clear hb)
  go_loopw [20, 5] (fun i v wr => ∃ (k : Nat) (A5 : Option Addr) (c5 : Nat), k ≤ n ∧ i = .int .i64 (k : Nat) ∧ v = .slice A5 k c5 ∧ Hid (OwnI wr w.heap.size A5 k c5 (seqI k)) ∧ Hid (Below w.heap.size w wr)) (fun i _ _ => n - (intOf i).toNat)
  case atStart => exact ⟨0, none, 0, Nat.zero_le _, rfl, rfl, OwnI.nil_ _ _, HB1.out⟩
  case round =>
    obtain ⟨k, A5, c5, hk, rfl, rfl, HO, HB⟩ := hrel
    by_cases hlt : k < n
    · go_wp2_with (at_builtin; refine wpList_push rfl (.tmp 23) (.tmp 26) _ rfl w.heap.size 3 .i64 8 (by decide) Try.underlying46 info_int wr A5 k c5 (seqI k) _ rfl HO.out rfl (by omega) HB.out.size ?_; intro g' c'' w4 ho4 hb4; have hb5 := Lib.hid (HB.out.trans hb4); replace ho4 := Lib.hid ho4; clear hb4)
      go_roundw
      case rel => exact ⟨k + 1, some ⟨g', 0, none⟩, c'', by omega, by go_num, rfl, by show OwnI _ _ _ _ _ _; rw [seqI_succ]; exact ho4.out, hb5.out⟩
      case measure => simp [intOf]; omega
    · obtain rfl : k = n := by omega
      clear hlt hk
      have HNE0 : Hid (∀ b : Nat, A5 = some ⟨b, 0, none⟩ → (none : Option Addr) ≠ some ⟨b, 0, none⟩) := by
        show ∀ b : Nat, A5 = some ⟨b, 0, none⟩ → (none : Option Addr) ≠ some ⟨b, 0, none⟩
        intro b _ h
        cases h
      go_wp2_with fail
      go_loopw [31, 5, 7] (fun i v v7 wr => ∃ (t : Nat) (A5 : Option Addr) (n5 c5 : Nat) (A7 : Option Addr) (c7 : Nat) (l : List Int) (told : List Sp), t ≤ k ∧ i = .int .i64 (t : Nat) ∧ v = .slice A5 n5 c5 ∧ v7 = .slice A7 t c7 ∧ Hid (PeI q its k t l told) ∧ Hid (OwnI wr w.heap.size A5 n5 c5 l) ∧ Hid (wr.ownsRow w.heap.size 35 3 (.slice A7 t c7) t (flatS told)) ∧ Hid (∀ b, A5 = some ⟨b, 0, none⟩ → A7 ≠ some ⟨b, 0, none⟩) ∧ Hid (Below w.heap.size w wr)) (fun i _ _ _ => k - (intOf i).toNat)
      case atStart => exact ⟨0, A5, k, c5, none, 0, seqI k, [], Nat.zero_le _, rfl, rfl, rfl, PeI.start q its k, HO.out, World.ownsRow_nil _ _ _ _, HNE0, HB.out⟩
      case round =>
        clear HO HB
        obtain ⟨t, A5, n5, c5, A7, c7, l, told, ht, rfl, rfl, rfl, HP, HO5, HO7, HNE, HB⟩ := hrel
        obtain ⟨W0, rfl⟩ : ∃ W0, W0 = wr := ⟨_, rfl⟩
        by_cases hlt : t < k
        · have hn5 : n5 + t = k := by have h1 := HO5.out.len; have h2 := HP.out.len; omega
          have HLT := Lib.hid hlt
          go_wp2_with fail
          go_loopw [35, 8] (fun i v wr => ∃ (j : Nat) (A8 : Option Addr) (c8 : Nat), j ≤ n5 ∧ i = .int .i64 (j : Nat) ∧ v = .slice A8 j c8 ∧ Hid (wr.ownsRow W0.heap.size 45 3 (.slice A8 j c8) j (flatX ((restL its l).take j))) ∧ Hid (Below W0.heap.size W0 wr)) (fun i _ _ => n5 - (intOf i).toNat)
          case atStart => exact ⟨0, none, 0, Nat.zero_le _, rfl, rfl, World.ownsRow_nil _ _ _ _, Below.refl _ _⟩
          case round =>
            obtain ⟨j, A8, c8, hj, rfl, rfl, HO8, HB2⟩ := hrel
            by_cases hlj : j < n5
            · obtain ⟨b2, o2, e2, hb2, hc2⟩ := (Rd.below HO5.out.rd HB2.out).atI hlj
              subst e2
              obtain ⟨z, hz⟩ : ∃ z, ig l j = z := ⟨_, rfl⟩
              rw [hz] at hc2
              have hlz : l[j]? = some z := by
                rw [← hz, ig, List.getD_eq_getElem?_getD, List.getElem?_eq_getElem (by rw [HO5.out.len]; exact hlj)]
                rfl
              have hzr := HP.out.rng z (List.mem_of_getElem? hlz)
              obtain ⟨m, hm⟩ : ∃ m : Nat, z - 1 = (m : Int) := ⟨(z - 1).toNat, by omega⟩
              have hmk : m < k := by omega
              obtain ⟨b, o, d, rfl, hbl, hd, hv, hr⟩ := (HI.out.below (HB.out.trans (HB2.out.mono HB.out.size))).at_ hmk
              have LI := itx_load hr
              have HX : Hid ((restL its l).take (j + 1) = (restL its l).take j ++ [d]) := by
                refine take_stepX ?_
                unfold restL
                rw [List.getElem?_map, hlz]
                show some (itAt its z) = some d
                unfold itAt
                rw [hm, Int.toNat_natCast, List.getD_eq_getElem?_getD, hd]
                rfl
              have tz1 : decide (z < 1) = false := decide_eq_false (by omega)
              have tz2 : decide (z > (k : Int)) = false := decide_eq_false (by omega)
              have e1 : wrap64 (z - 1) = ((m : Nat) : Int) := by rw [hm]; unfold wrap64; have := HN.out; omega
              clear hz hlz hzr hm hd hv hr hbl hb2
              unfold ItX.cells IS.v at LI
              go_wp2_with (first | refine wpList_loadE LI _ rfl rfl rfl ?_ | (at_builtin; refine wpList_push1 rfl (.tmp 47) (.tmp 53) 23 45 3 40 _ rfl Try.underlying23 info_itemX rfl (by decide) wr W0.heap.size _ j _ d.cells rfl HO8.out rfl rfl (fun u hu => by rcases (by simpa [ItX.cells, IS.v] using hu : u = _ ∨ u = _ ∨ u = _) with rfl | rfl | rfl <;> rfl) (by omega) (by decide) HB2.out.size ?_; intro g2 c4 W4 ho hgr hb hat; replace ho := Lib.hid ho; replace hb := Lib.hid hb; clear hgr hat))
              go_roundw
              case rel => exact ⟨j + 1, some ⟨g2, 0, none⟩, c4, by omega, by go_num, rfl, by show World.ownsRow _ _ _ _ _ _ _; rw [HX.out, flatX_app]; simpa [flatX] using ho.out, HB2.out.trans hb.out⟩
              case measure => simp [intOf]; omega
            · obtain rfl : j = n5 := by omega
              clear hlj hj
              have hll : l.length = j := HO5.out.len
              have hrl : (restL its l).length = j := by unfold restL; rw [List.length_map, hll]
              have hbw : Below w.heap.size w wr := HB.out.trans (HB2.out.mono HB.out.size)
              have ho8 := HO8.out
              rw [List.take_of_length_le (by rw [hrl]; exact Nat.le_refl _)] at ho8
              have hi8 := own_its ho8 hrl (fun d hd => by
                unfold restL at hd
                obtain ⟨z, hz, rfl⟩ := List.mem_map.1 hd
                have hzr := HP.out.rng z hz
                refine ((HI.out.2 _ ?_).below hbw).more hbw.size
                have hlt : (z - 1).toNat < its.length := by rw [HIL.out]; omega
                unfold itAt
                rw [List.getD_eq_getElem?_getD, List.getElem?_eq_getElem hlt]
                exact List.getElem_mem hlt)
              have hf := ed_far q A5 j c5 l A8 c8 (restL its l) wr ((HQ.out.below hbw).more hbw.size) (Rd.more (Rd.below HO5.out.rd HB2.out) HB2.out.size) hi8 (by omega) (by omega)
              rw [← hll] at hf
              have HF := Lib.hid hf
              have HLL := Lib.hid hll
              have HBW := Lib.hid hbw
              clear hf hi8 ho8 hbw hrl hll
              rw [HLL.out] at HF
              go_upto_region 23 with (first
                | (go_at_call 19; (with_reducible refine HF.out.mono ?_); rintro e w3 ⟨x, hx, rfl, hb3⟩; have HB3 := Lib.hid hb3; have HXX := Lib.hid hx; obtain ⟨W4, hW4⟩ : ∃ W4, (w3.alloc (.cells #[.int .u64 0, .int .u64 0, .int .i64 0] 35)).setCells w3.heap.size 0 (spC x).toList = W4 := ⟨_, rfl⟩; have SI : (Instr.storeAt 35 (.pointer (some ⟨w3.heap.size, 0, none⟩)) (spV x)).run Try.prog _ = _ := spB_put w3 x; rw [hW4] at SI; have HK4 : Hid (Blk W4 w3.heap.size 35 (spC x)) := (by show Blk _ _ _ _; rw [← hW4]; exact spB_blk w3 x); have HB34 : Hid (Below w3.heap.size w3 W4) := (by show Below _ _ _; rw [← hW4]; exact put_bel _ _ _); clear hW4 hx hb3)
                | refine wpList_storeE SI _ _ rfl rfl rfl rfl ?_)
              clear SI HF HO8
              have hlaw := HP.out.step HLT.out (x := x) (by rw [HLL.out]; exact HXX.out)
              have HLAW := Lib.hid hlaw
              have HB24 : Hid (Below wr.heap.size wr W4) := HB3.out.trans (HB34.out.mono HB3.out.size)
              have HBR4 : Hid (Below W0.heap.size W0 W4) := HB2.out.trans (HB24.out.mono HB2.out.size)
              have HHAS : Hid (∀ w', Below W4.heap.size W4 w' → Calls Try.prog 20 #[.slice A5 j c5, .int .i64 x.s] w' fun e w'' => e = .returned (.bool true) ∧ w' = w'') := by
                intro w' hb
                have h := eg_has A5 j c5 l x.s w' (Rd.more (Rd.below HO5.out.rd (HBR4.out.trans (hb.mono HBR4.out.size))) (Nat.le_trans HBR4.out.size hb.size)) (by have := HN.out; omega)
                rw [HLAW.out.1] at h
                exact h
              obtain ⟨xb, hxb⟩ : ∃ xb, w3.heap.size = xb := ⟨_, rfl⟩
              have HXB := Lib.hid hxb
              rw [hxb] at HK4
              try rw [hxb]
              clear hlaw hxb
              obtain rfl | ht0 := Nat.eq_zero_or_pos t
              · clear ht
                refine wp_region_held_drew (S := fun w' => Below W4.heap.size W4 w') (by kernel_rfl) (below_drewN (Below.refl _ _) 1) (fun hH => ?_)
                refine wpAnyH_take (i := 0) (v := .bool true) rfl (by kernel_rfl) (by kernel_rfl) (by kernel_rfl) (fun _ _ _ h => h) (.inl ⟨by rfl, fun _ _ => by kernel_rfl⟩) hH ?_
                (try simp only [List.getElem_toArray, List.getElem_cons_zero, Act.put, List.setIfInBounds_toArray, List.set_cons_zero, List.set_cons_succ])
                refine wpAnyH_take (i := 1) (v := .bool false) rfl (by kernel_rfl) (by kernel_rfl) (by kernel_rfl) (fun _ _ _ h => h) (.inl ⟨by rfl, fun _ _ => by kernel_rfl⟩) hH ?_
                (try simp only [List.getElem_toArray, List.getElem_cons_zero, List.getElem_cons_succ, Act.put, List.setIfInBounds_toArray, List.set_cons_zero, List.set_cons_succ])
                refine wpAnyH_take (i := 2) (v := .bool false) rfl (by kernel_rfl) (by kernel_rfl) (by kernel_rfl) (fun _ _ _ h => h) (.inl ⟨by rfl, fun _ _ => by kernel_rfl⟩) hH ?_
                (try simp only [List.getElem_toArray, List.getElem_cons_zero, List.getElem_cons_succ, Act.put, List.setIfInBounds_toArray, List.set_cons_zero, List.set_cons_succ])
                refine wpAnyH_take (i := 3) (v := .slice A5 j c5) rfl (by kernel_rfl) (by kernel_rfl) (by kernel_rfl) (fun _ _ _ h => h) (.inl ⟨by rfl, fun _ _ => by kernel_rfl⟩) hH ?_
                (try simp only [List.getElem_toArray, List.getElem_cons_zero, List.getElem_cons_succ, Act.put, List.setIfInBounds_toArray, List.set_cons_zero, List.set_cons_succ])
                refine wpAnyH_take (i := 4) (v := .pointer (some ⟨xb, 2, none⟩)) rfl (by kernel_rfl) (by kernel_rfl) (by kernel_rfl) (fun _ _ _ h => h) (.inl ⟨by rfl, fun _ _ => by kernel_rfl⟩) hH ?_
                (try simp only [List.getElem_toArray, List.getElem_cons_zero, List.getElem_cons_succ, Act.put, List.setIfInBounds_toArray, List.set_cons_zero, List.set_cons_succ])
                refine wpAnyH_take (i := 5) (v := .int .i64 x.s) rfl (by kernel_rfl) (by kernel_rfl) (by kernel_rfl) (fun _ _ _ h => h) (yieldsIf_loadP (by rfl) _ rfl rfl (fun _ s => load_i64C ((HK4.out.below s HK4.out.lt).cell 2))) hH ?_
                (try simp only [List.getElem_toArray, List.getElem_cons_zero, List.getElem_cons_succ, Act.put, List.setIfInBounds_toArray, List.set_cons_zero, List.set_cons_succ])
                refine wpAnyH_call 6 20 #[.slice A5 j c5, .int .i64 x.s] _ (by kernel_rfl) (by rfl) (by kernel_rfl) (by kernel_rfl) (HHAS.out _ hH) ?_
                rintro e Z0 ⟨rfl, rfl⟩
                refine ⟨_, rfl, hH, ?_⟩
                (try simp only [List.getElem_toArray, List.getElem_cons_zero, List.getElem_cons_succ, Act.put, List.setIfInBounds_toArray, List.set_cons_zero, List.set_cons_succ])
                refine wpAnyH_take (i := 7) (v := .bool false) rfl (by kernel_rfl) (by kernel_rfl) (by kernel_rfl) (fun _ _ _ h => h) (.inl ⟨by rfl, fun _ _ => by kernel_rfl⟩) hH ?_
                (try simp only [List.getElem_toArray, List.getElem_cons_zero, List.getElem_cons_succ, Act.put, List.setIfInBounds_toArray, List.set_cons_zero, List.set_cons_succ])
                refine wpAnyH_take (i := 8) (v := .bool false) rfl (by kernel_rfl) (by kernel_rfl) (by kernel_rfl) (fun _ _ _ h => h) (.inl ⟨by rfl, fun _ _ => by kernel_rfl⟩) hH ?_
                (try simp only [List.getElem_toArray, List.getElem_cons_zero, List.getElem_cons_succ, Act.put, List.setIfInBounds_toArray, List.set_cons_zero, List.set_cons_succ])
                refine wpAnyH_take (i := 9) (v := .bool false) rfl (by kernel_rfl) (by kernel_rfl) (by kernel_rfl) (fun _ _ _ h => h) (.inl ⟨by rfl, fun _ _ => by kernel_rfl⟩) hH ?_
                (try simp only [List.getElem_toArray, List.getElem_cons_zero, List.getElem_cons_succ, Act.put, List.setIfInBounds_toArray, List.set_cons_zero, List.set_cons_succ])
                refine wpAnyH_take (i := 10) (v := .slice A7 0 c7) rfl (by kernel_rfl) (by kernel_rfl) (by kernel_rfl) (fun _ _ _ h => h) (.inl ⟨by rfl, fun _ _ => by kernel_rfl⟩) hH ?_
                (try simp only [List.getElem_toArray, List.getElem_cons_zero, List.getElem_cons_succ, Act.put, List.setIfInBounds_toArray, List.set_cons_zero, List.set_cons_succ])
                refine wpAnyH_take (i := 11) (v := .int .i64 0) rfl (by kernel_rfl) (by kernel_rfl) (by kernel_rfl) (fun _ _ _ h => h) (.inl ⟨by rfl, fun _ _ => by kernel_rfl⟩) hH ?_
                (try simp only [List.getElem_toArray, List.getElem_cons_zero, List.getElem_cons_succ, Act.put, List.setIfInBounds_toArray, List.set_cons_zero, List.set_cons_succ])
                refine wpAnyH_take (i := 12) (v := .bool false) rfl (by kernel_rfl) (by kernel_rfl) (by kernel_rfl) (fun _ _ _ h => h) (.inl ⟨by rfl, fun _ _ => by kernel_rfl⟩) hH ?_
                (try simp only [List.getElem_toArray, List.getElem_cons_zero, List.getElem_cons_succ, Act.put, List.setIfInBounds_toArray, List.set_cons_zero, List.set_cons_succ])
                refine wpAnyH_take (i := 13) (v := .bool false) rfl (by kernel_rfl) (by kernel_rfl) (by kernel_rfl) (fun _ _ _ h => h) (.inl ⟨by rfl, fun _ _ => by kernel_rfl⟩) hH ?_
                (try simp only [List.getElem_toArray, List.getElem_cons_zero, List.getElem_cons_succ, Act.put, List.setIfInBounds_toArray, List.set_cons_zero, List.set_cons_succ])
                refine wpAnyH_take (i := 14) (v := undef) rfl (by kernel_rfl) (by kernel_rfl) (by kernel_rfl) (fun _ _ _ h => h) (.inr ⟨by rfl, rfl⟩) hH ?_
                (try simp only [List.getElem_toArray, List.getElem_cons_zero, List.getElem_cons_succ, Act.put, List.setIfInBounds_toArray, List.set_cons_zero, List.set_cons_succ])
                refine wpAnyH_take (i := 15) (v := undef) rfl (by kernel_rfl) (by kernel_rfl) (by kernel_rfl) (fun _ _ _ h => h) (.inr ⟨by rfl, rfl⟩) hH ?_
                (try simp only [List.getElem_toArray, List.getElem_cons_zero, List.getElem_cons_succ, Act.put, List.setIfInBounds_toArray, List.set_cons_zero, List.set_cons_succ])
                refine wpAnyH_take (i := 16) (v := undef) rfl (by kernel_rfl) (by kernel_rfl) (by kernel_rfl) (fun _ _ _ h => h) (.inr ⟨by rfl, rfl⟩) hH ?_
                (try simp only [List.getElem_toArray, List.getElem_cons_zero, List.getElem_cons_succ, Act.put, List.setIfInBounds_toArray, List.set_cons_zero, List.set_cons_succ])
                refine wpAnyH_take (i := 17) (v := undef) rfl (by kernel_rfl) (by kernel_rfl) (by kernel_rfl) (fun _ _ _ h => h) (.inr ⟨by rfl, rfl⟩) hH ?_
                (try simp only [List.getElem_toArray, List.getElem_cons_zero, List.getElem_cons_succ, Act.put, List.setIfInBounds_toArray, List.set_cons_zero, List.set_cons_succ])
                refine wpAnyH_take (i := 18) (v := undef) rfl (by kernel_rfl) (by kernel_rfl) (by kernel_rfl) (fun _ _ _ h => h) (.inr ⟨by rfl, rfl⟩) hH ?_
                (try simp only [List.getElem_toArray, List.getElem_cons_zero, List.getElem_cons_succ, Act.put, List.setIfInBounds_toArray, List.set_cons_zero, List.set_cons_succ])
                refine wpAnyH_take (i := 19) (v := undef) rfl (by kernel_rfl) (by kernel_rfl) (by kernel_rfl) (fun _ _ _ h => h) (.inr ⟨by rfl, rfl⟩) hH ?_
                (try simp only [List.getElem_toArray, List.getElem_cons_zero, List.getElem_cons_succ, Act.put, List.setIfInBounds_toArray, List.set_cons_zero, List.set_cons_succ])
                refine wpAnyH_take (i := 20) (v := undef) rfl (by kernel_rfl) (by kernel_rfl) (by kernel_rfl) (fun _ _ _ h => h) (.inr ⟨by rfl, rfl⟩) hH ?_
                (try simp only [List.getElem_toArray, List.getElem_cons_zero, List.getElem_cons_succ, Act.put, List.setIfInBounds_toArray, List.set_cons_zero, List.set_cons_succ])
                refine wpAnyH_take (i := 21) (v := undef) rfl (by kernel_rfl) (by kernel_rfl) (by kernel_rfl) (fun _ _ _ h => h) (.inr ⟨by rfl, rfl⟩) hH ?_
                (try simp only [List.getElem_toArray, List.getElem_cons_zero, List.getElem_cons_succ, Act.put, List.setIfInBounds_toArray, List.set_cons_zero, List.set_cons_succ])
                refine wpAnyH_take (i := 22) (v := undef) rfl (by kernel_rfl) (by kernel_rfl) (by kernel_rfl) (fun _ _ _ h => h) (.inr ⟨by rfl, rfl⟩) hH ?_
                (try simp only [List.getElem_toArray, List.getElem_cons_zero, List.getElem_cons_succ, Act.put, List.setIfInBounds_toArray, List.set_cons_zero, List.set_cons_succ])
                refine wpAnyH_take (i := 23) (v := .bool false) rfl (by kernel_rfl) (by kernel_rfl) (by kernel_rfl) (fun _ _ _ h => h) (.inl ⟨by rfl, fun _ _ => by kernel_rfl⟩) hH ?_
                (try simp only [List.getElem_toArray, List.getElem_cons_zero, List.getElem_cons_succ, Act.put, List.setIfInBounds_toArray, List.set_cons_zero, List.set_cons_succ])
                refine wpAnyH_take (i := 24) (v := .bool false) rfl (by kernel_rfl) (by kernel_rfl) (by kernel_rfl) (fun _ _ _ h => h) (.inl ⟨by rfl, fun _ _ => by kernel_rfl⟩) hH ?_
                (try simp only [List.getElem_toArray, List.getElem_cons_zero, List.getElem_cons_succ, Act.put, List.setIfInBounds_toArray, List.set_cons_zero, List.set_cons_succ])
                refine wpAnyH_done (by kernel_rfl) ?_ _
                have HZ : Hid (Below W4.heap.size W4 W4.drew) := hH
                have HKZ : Hid (Blk W4.drew xb 35 (spC x)) := HK4.out.below HZ.out HK4.out.lt
                have L1 := spB_load HKZ.out
                unfold spC at L1
                have HBZ : Hid (Below W0.heap.size W0 W4.drew) := HBR4.out.trans (HZ.out.mono HBR4.out.size)
                have HO7Z : Hid (W4.drew.ownsRow w.heap.size 35 3 (.slice A7 0 c7) 0 (flatS told)) := own_keep HO7.out HBZ.out
                have HO5Z : Hid (OwnI W4.drew w.heap.size A5 j c5 l) := own_keep HO5.out HBZ.out
                have HBWZ : Hid (Below w.heap.size w W4.drew) := HB.out.trans (HBZ.out.mono HB.out.size)
                go_upto_region 26 with (first | refine wpList_loadE L1 _ rfl rfl rfl ?_ | (at_builtin; refine wpList_push1 rfl (.tmp 88) (.tmp 90) 25 35 3 24 _ rfl Try.underlying25 info_spotK rfl (by decide) W4.drew w.heap.size _ 0 _ (spC x) rfl HO7Z.out rfl rfl (fun u hu => by rcases (by simpa [spC] using hu : u = _ ∨ u = _ ∨ u = _) with rfl | rfl | rfl <;> rfl) (by have := HN.out; omega) (by decide) HBWZ.out.size ?_; intro g2 c4 W6 ho hgr hb hat; replace ho := Lib.hid ho; replace hgr := Lib.hid hgr; replace hb := Lib.hid hb; clear hat))
                clear L1
                have h6 : OwnI W6 w.heap.size A5 j c5 l := ownsRow_tch HO5Z.out (grownBy_tch hgr.out) (own_apart HO5Z.out HO7Z.out HNE.out)
                have z2 : W6.cell? ⟨xb, 2, none⟩ = some (.int .i64 x.s) := (HKZ.out.grown hgr.out (fun q => by
                  have h1 := (HO7.out.lt xb q.symm).2
                  have h2 := HB2.out.size
                  have h3 := HB3.out.size
                  have h4 := HXB.out
                  omega)).cell 2
                have HWO := Lib.hid (eg_without A5 j c5 l x.s W6 h6.rd h6.none_ (by have := HN.out; omega))
                clear h6
                go_wp2_with (go_at_call 22; (with_reducible refine HWO.out.mono ?_); rintro e W7 ⟨A9, n9, c9, rfl, ho9, hb9⟩; replace ho9 := Lib.hid ho9; replace hb9 := Lib.hid hb9)
                go_roundw
                case rel =>
                  refine ⟨0 + 1, A9, n9, c9, some ⟨g2, 0, none⟩, c4, withoutI l x.s, told ++ [x], HLT.out, by go_num, rfl, rfl, HLAW.out.2.2, OwnI.mono ho9.out (Nat.le_trans HBWZ.out.size hgr.out.size), ?_, ?_, (HBWZ.out.trans hb.out).trans (hb9.out.mono (Nat.le_trans HBWZ.out.size hgr.out.size))⟩
                  · show World.ownsRow _ _ _ _ _ _ _
                    rw [flatS_appC]
                    have h1 := own_keep ho.out hb9.out
                    simpa [flatS, spL, spC] using h1
                  · intro b e1 e2
                    have h1 := (ho.out.lt g2 rfl).2
                    rcases ho9.out.row with ⟨q, _⟩ | ⟨g, q, hg, _⟩
                    · rw [q] at e1; cases e1
                    · rw [q] at e1
                      injection e1 with e1; injection e1 with e1 _ _
                      injection e2 with e2; injection e2 with e2 _ _
                      omega
                case measure => have := HLT.out; simp [intOf]; omega
              · obtain ⟨g7, e7⟩ : ∃ g7, A7 = some ⟨g7, 0, none⟩ := by
                  rcases HO7.out.2 with ⟨_, q1⟩ | ⟨g, cap, cur, q1, _⟩
                  · omega
                  · injection q1 with q1; exact ⟨g, q1⟩
                subst e7
                obtain ⟨b, o, cs, e, hbl, hx, _, hr⟩ := Rs.at_ (own_spAt HO7.out HP.out.tl).1 (show t - 1 < t by omega)
                injection e with e; injection e with e1 e2 _
                subst e1 e2
                rw [List.getElem?_map] at hx
                obtain ⟨y, hy, rfl⟩ := Option.map_eq_some_iff.1 hx
                have HLY : Hid (∀ w', Below W4.heap.size W4 w' → w'.rangeAt g7 (0 + (t - 1) * 3) (spL y)) := fun w' s => rangeAt_keep hr fun j => (HBR4.out.trans (s.mono HBR4.out.size)).cell (p := ⟨g7, j, none⟩) hbl
                have HXY := Lib.hid (HLAW.out.2.1 y hy)
                have HGT : Hid (decide ((((t : Nat) : Int)) > 0) = true) := by show _ = _; exact decide_eq_true (by omega)
                have HPS : Hid (IntKind.i64.wrap (((t : Nat) : Int) - 1) = ((t - 1 : Nat) : Int)) := by show _ = _; rw [IntKind.wrap_i64]; have := HN.out; have := HLT.out; omega
                have HPLT : Hid (t - 1 < t) := by show _ < _; omega
                clear hr hbl hx hy ht0 ht
                refine wp_region_held_drew (S := fun w' => Below W4.heap.size W4 w') (by kernel_rfl) (below_drewN (Below.refl _ _) 1) (fun hH => ?_)
                refine wpAnyH_take (i := 0) (v := .bool true) rfl (by kernel_rfl) (by kernel_rfl) (by kernel_rfl) (fun _ _ _ h => h) (.inl ⟨by rfl, fun _ _ => by kernel_rfl⟩) hH ?_
                (try simp only [List.getElem_toArray, List.getElem_cons_zero, Act.put, List.setIfInBounds_toArray, List.set_cons_zero, List.set_cons_succ])
                refine wpAnyH_take (i := 1) (v := .bool false) rfl (by kernel_rfl) (by kernel_rfl) (by kernel_rfl) (fun _ _ _ h => h) (.inl ⟨by rfl, fun _ _ => by kernel_rfl⟩) hH ?_
                (try simp only [List.getElem_toArray, List.getElem_cons_zero, List.getElem_cons_succ, Act.put, List.setIfInBounds_toArray, List.set_cons_zero, List.set_cons_succ])
                refine wpAnyH_take (i := 2) (v := .bool false) rfl (by kernel_rfl) (by kernel_rfl) (by kernel_rfl) (fun _ _ _ h => h) (.inl ⟨by rfl, fun _ _ => by kernel_rfl⟩) hH ?_
                (try simp only [List.getElem_toArray, List.getElem_cons_zero, List.getElem_cons_succ, Act.put, List.setIfInBounds_toArray, List.set_cons_zero, List.set_cons_succ])
                refine wpAnyH_take (i := 3) (v := .slice A5 j c5) rfl (by kernel_rfl) (by kernel_rfl) (by kernel_rfl) (fun _ _ _ h => h) (.inl ⟨by rfl, fun _ _ => by kernel_rfl⟩) hH ?_
                (try simp only [List.getElem_toArray, List.getElem_cons_zero, List.getElem_cons_succ, Act.put, List.setIfInBounds_toArray, List.set_cons_zero, List.set_cons_succ])
                refine wpAnyH_take (i := 4) (v := .pointer (some ⟨xb, 2, none⟩)) rfl (by kernel_rfl) (by kernel_rfl) (by kernel_rfl) (fun _ _ _ h => h) (.inl ⟨by rfl, fun _ _ => by kernel_rfl⟩) hH ?_
                (try simp only [List.getElem_toArray, List.getElem_cons_zero, List.getElem_cons_succ, Act.put, List.setIfInBounds_toArray, List.set_cons_zero, List.set_cons_succ])
                refine wpAnyH_take (i := 5) (v := .int .i64 x.s) rfl (by kernel_rfl) (by kernel_rfl) (by kernel_rfl) (fun _ _ _ h => h) (yieldsIf_loadP (by rfl) _ rfl rfl (fun _ s => load_i64C ((HK4.out.below s HK4.out.lt).cell 2))) hH ?_
                (try simp only [List.getElem_toArray, List.getElem_cons_zero, List.getElem_cons_succ, Act.put, List.setIfInBounds_toArray, List.set_cons_zero, List.set_cons_succ])
                refine wpAnyH_call 6 20 #[.slice A5 j c5, .int .i64 x.s] _ (by kernel_rfl) (by rfl) (by kernel_rfl) (by kernel_rfl) (HHAS.out _ hH) ?_
                rintro e Z0 ⟨rfl, rfl⟩
                refine ⟨_, rfl, hH, ?_⟩
                (try simp only [List.getElem_toArray, List.getElem_cons_zero, List.getElem_cons_succ, Act.put, List.setIfInBounds_toArray, List.set_cons_zero, List.set_cons_succ])
                refine wpAnyH_take (i := 7) (v := .bool false) rfl (by kernel_rfl) (by kernel_rfl) (by kernel_rfl) (fun _ _ _ h => h) (.inl ⟨by rfl, fun _ _ => by kernel_rfl⟩) hH ?_
                (try simp only [List.getElem_toArray, List.getElem_cons_zero, List.getElem_cons_succ, Act.put, List.setIfInBounds_toArray, List.set_cons_zero, List.set_cons_succ])
                refine wpAnyH_take (i := 8) (v := .bool false) rfl (by kernel_rfl) (by kernel_rfl) (by kernel_rfl) (fun _ _ _ h => h) (.inl ⟨by rfl, fun _ _ => by kernel_rfl⟩) hH ?_
                (try simp only [List.getElem_toArray, List.getElem_cons_zero, List.getElem_cons_succ, Act.put, List.setIfInBounds_toArray, List.set_cons_zero, List.set_cons_succ])
                refine wpAnyH_take (i := 9) (v := .bool false) rfl (by kernel_rfl) (by kernel_rfl) (by kernel_rfl) (fun _ _ _ h => h) (.inl ⟨by rfl, fun _ _ => by kernel_rfl⟩) hH ?_
                (try simp only [List.getElem_toArray, List.getElem_cons_zero, List.getElem_cons_succ, Act.put, List.setIfInBounds_toArray, List.set_cons_zero, List.set_cons_succ])
                refine wpAnyH_take (i := 10) (v := .slice (some ⟨g7, 0, none⟩) t c7) rfl (by kernel_rfl) (by kernel_rfl) (by kernel_rfl) (fun _ _ _ h => h) (.inl ⟨by rfl, fun _ _ => by kernel_rfl⟩) hH ?_
                (try simp only [List.getElem_toArray, List.getElem_cons_zero, List.getElem_cons_succ, Act.put, List.setIfInBounds_toArray, List.set_cons_zero, List.set_cons_succ])
                refine wpAnyH_take (i := 11) (v := .int .i64 t) rfl (by kernel_rfl) (by kernel_rfl) (by kernel_rfl) (fun _ _ _ h => h) (.inl ⟨by rfl, fun _ _ => by kernel_rfl⟩) hH ?_
                (try simp only [List.getElem_toArray, List.getElem_cons_zero, List.getElem_cons_succ, Act.put, List.setIfInBounds_toArray, List.set_cons_zero, List.set_cons_succ])
                refine wpAnyH_take (i := 12) (v := .bool true) rfl (by kernel_rfl) (by kernel_rfl) (by kernel_rfl) (fun _ _ _ h => h) (yieldsIf_gtrC HGT.out (by rfl) _ _ rfl rfl rfl) hH ?_
                (try simp only [List.getElem_toArray, List.getElem_cons_zero, List.getElem_cons_succ, Act.put, List.setIfInBounds_toArray, List.set_cons_zero, List.set_cons_succ])
                refine wpAnyH_take (i := 13) (v := .bool true) rfl (by kernel_rfl) (by kernel_rfl) (by kernel_rfl) (fun _ _ _ h => h) (.inl ⟨by rfl, fun _ _ => by kernel_rfl⟩) hH ?_
                (try simp only [List.getElem_toArray, List.getElem_cons_zero, List.getElem_cons_succ, Act.put, List.setIfInBounds_toArray, List.set_cons_zero, List.set_cons_succ])
                refine wpAnyH_take (i := 14) (v := spV x) rfl (by kernel_rfl) (by kernel_rfl) (by kernel_rfl) (fun _ _ _ h => h) (yieldsIf_loadP (by rfl) _ rfl rfl (fun _ s => spB_load (HK4.out.below s HK4.out.lt))) hH ?_
                (try simp only [List.getElem_toArray, List.getElem_cons_zero, List.getElem_cons_succ, Act.put, List.setIfInBounds_toArray, List.set_cons_zero, List.set_cons_succ])
                refine wpAnyH_take (i := 15) (v := .slice (some ⟨g7, 0, none⟩) t c7) rfl (by kernel_rfl) (by kernel_rfl) (by kernel_rfl) (fun _ _ _ h => h) (.inl ⟨by rfl, fun _ _ => by kernel_rfl⟩) hH ?_
                (try simp only [List.getElem_toArray, List.getElem_cons_zero, List.getElem_cons_succ, Act.put, List.setIfInBounds_toArray, List.set_cons_zero, List.set_cons_succ])
                refine wpAnyH_take (i := 16) (v := .slice (some ⟨g7, 0, none⟩) t c7) rfl (by kernel_rfl) (by kernel_rfl) (by kernel_rfl) (fun _ _ _ h => h) (.inl ⟨by rfl, fun _ _ => by kernel_rfl⟩) hH ?_
                (try simp only [List.getElem_toArray, List.getElem_cons_zero, List.getElem_cons_succ, Act.put, List.setIfInBounds_toArray, List.set_cons_zero, List.set_cons_succ])
                refine wpAnyH_take (i := 17) (v := .int .i64 t) rfl (by kernel_rfl) (by kernel_rfl) (by kernel_rfl) (fun _ _ _ h => h) (.inl ⟨by rfl, fun _ _ => by kernel_rfl⟩) hH ?_
                (try simp only [List.getElem_toArray, List.getElem_cons_zero, List.getElem_cons_succ, Act.put, List.setIfInBounds_toArray, List.set_cons_zero, List.set_cons_succ])
                refine wpAnyH_take (i := 18) (v := .int .i64 ((t - 1 : Nat) : Int)) rfl (by kernel_rfl) (by kernel_rfl) (by kernel_rfl) (fun _ _ _ h => h) (yieldsIf_subC HPS.out (by rfl) _ _ rfl rfl rfl) hH ?_
                (try simp only [List.getElem_toArray, List.getElem_cons_zero, List.getElem_cons_succ, Act.put, List.setIfInBounds_toArray, List.set_cons_zero, List.set_cons_succ])
                refine wpAnyH_take (i := 19) (v := .pointer (some ⟨g7, 0 + (t - 1) * 3, none⟩)) rfl (by kernel_rfl) (by kernel_rfl) (by kernel_rfl) (fun _ _ _ h => h) (yieldsIf_indexS Try.underlying25 sizeSpE (by rfl) _ _ rfl rfl rfl HPLT.out) hH ?_
                (try simp only [List.getElem_toArray, List.getElem_cons_zero, List.getElem_cons_succ, Act.put, List.setIfInBounds_toArray, List.set_cons_zero, List.set_cons_succ])
                refine wpAnyH_take (i := 20) (v := spV y) rfl (by kernel_rfl) (by kernel_rfl) (by kernel_rfl) (fun _ _ _ h => h) (yieldsIf_loadP (by rfl) _ rfl rfl (fun _ s => sp_loadB (HLY.out _ s))) hH ?_
                (try simp only [List.getElem_toArray, List.getElem_cons_zero, List.getElem_cons_succ, Act.put, List.setIfInBounds_toArray, List.set_cons_zero, List.set_cons_succ])
                refine wpAnyH_call 21 21 #[spV x, spV y] _ (by kernel_rfl) (by rfl) (by kernel_rfl) (by kernel_rfl) (rank_spot x y _) ?_
                rintro e Z1 ⟨rfl, g1⟩
                rw [HXY.out]
                have h1 := hH.trans (g1.below.mono hH.size)
                refine ⟨_, rfl, h1, ?_⟩
                (try simp only [List.getElem_toArray, List.getElem_cons_zero, List.getElem_cons_succ, Act.put, List.setIfInBounds_toArray, List.set_cons_zero, List.set_cons_succ])
                refine wpAnyH_take (i := 22) (v := .bool false) rfl (by kernel_rfl) (by kernel_rfl) (by kernel_rfl) (fun _ _ _ h => h) (.inl ⟨by rfl, fun _ _ => by kernel_rfl⟩) h1 ?_
                (try simp only [List.getElem_toArray, List.getElem_cons_zero, List.getElem_cons_succ, Act.put, List.setIfInBounds_toArray, List.set_cons_zero, List.set_cons_succ])
                refine wpAnyH_take (i := 23) (v := .bool false) rfl (by kernel_rfl) (by kernel_rfl) (by kernel_rfl) (fun _ _ _ h => h) (.inl ⟨by rfl, fun _ _ => by kernel_rfl⟩) h1 ?_
                (try simp only [List.getElem_toArray, List.getElem_cons_zero, List.getElem_cons_succ, Act.put, List.setIfInBounds_toArray, List.set_cons_zero, List.set_cons_succ])
                refine wpAnyH_take (i := 24) (v := .bool false) rfl (by kernel_rfl) (by kernel_rfl) (by kernel_rfl) (fun _ _ _ h => h) (.inl ⟨by rfl, fun _ _ => by kernel_rfl⟩) h1 ?_
                (try simp only [List.getElem_toArray, List.getElem_cons_zero, List.getElem_cons_succ, Act.put, List.setIfInBounds_toArray, List.set_cons_zero, List.set_cons_succ])
                refine wpAnyH_done (by kernel_rfl) ?_ _
                have HZ : Hid (Below W4.heap.size W4 Z1) := h1
                have HKZ : Hid (Blk Z1 xb 35 (spC x)) := HK4.out.below HZ.out HK4.out.lt
                have L1 := spB_load HKZ.out
                unfold spC at L1
                have HBZ : Hid (Below W0.heap.size W0 Z1) := HBR4.out.trans (HZ.out.mono HBR4.out.size)
                have HO7Z : Hid (Z1.ownsRow w.heap.size 35 3 (.slice (some ⟨g7, 0, none⟩) t c7) t (flatS told)) := own_keep HO7.out HBZ.out
                have HO5Z : Hid (OwnI Z1 w.heap.size A5 j c5 l) := own_keep HO5.out HBZ.out
                have HBWZ : Hid (Below w.heap.size w Z1) := HB.out.trans (HBZ.out.mono HB.out.size)
                go_upto_region 26 with (first | refine wpList_loadE L1 _ rfl rfl rfl ?_ | (at_builtin; refine wpList_push1 rfl (.tmp 88) (.tmp 90) 25 35 3 24 _ rfl Try.underlying25 info_spotK rfl (by decide) Z1 w.heap.size _ t _ (spC x) rfl HO7Z.out rfl rfl (fun u hu => by rcases (by simpa [spC] using hu : u = _ ∨ u = _ ∨ u = _) with rfl | rfl | rfl <;> rfl) (by have := HN.out; omega) (by decide) HBWZ.out.size ?_; intro g2 c4 W6 ho hgr hb hat; replace ho := Lib.hid ho; replace hgr := Lib.hid hgr; replace hb := Lib.hid hb; clear hat))
                clear L1
                have h6 : OwnI W6 w.heap.size A5 j c5 l := ownsRow_tch HO5Z.out (grownBy_tch hgr.out) (own_apart HO5Z.out HO7Z.out HNE.out)
                have z2 : W6.cell? ⟨xb, 2, none⟩ = some (.int .i64 x.s) := (HKZ.out.grown hgr.out (fun q => by
                  have h1 := (HO7.out.lt xb q.symm).2
                  have h2 := HB2.out.size
                  have h3 := HB3.out.size
                  have h4 := HXB.out
                  omega)).cell 2
                have HWO := Lib.hid (eg_without A5 j c5 l x.s W6 h6.rd h6.none_ (by have := HN.out; omega))
                clear h6
                go_wp2_with (go_at_call 22; (with_reducible refine HWO.out.mono ?_); rintro e W7 ⟨A9, n9, c9, rfl, ho9, hb9⟩; replace ho9 := Lib.hid ho9; replace hb9 := Lib.hid hb9)
                go_roundw
                case rel =>
                  refine ⟨t + 1, A9, n9, c9, some ⟨g2, 0, none⟩, c4, withoutI l x.s, told ++ [x], HLT.out, by go_num, rfl, rfl, HLAW.out.2.2, OwnI.mono ho9.out (Nat.le_trans HBWZ.out.size hgr.out.size), ?_, ?_, (HBWZ.out.trans hb.out).trans (hb9.out.mono (Nat.le_trans HBWZ.out.size hgr.out.size))⟩
                  · show World.ownsRow _ _ _ _ _ _ _
                    rw [flatS_appC]
                    have h1 := own_keep ho.out hb9.out
                    simpa [flatS, spL, spC] using h1
                  · intro b e1 e2
                    have h1 := (ho.out.lt g2 rfl).2
                    rcases ho9.out.row with ⟨q, _⟩ | ⟨g, q, hg, _⟩
                    · rw [q] at e1; cases e1
                    · rw [q] at e1
                      injection e1 with e1; injection e1 with e1 _ _
                      injection e2 with e2; injection e2 with e2 _ _
                      omega
                case measure => have := HLT.out; simp [intOf]; omega
        · obtain rfl : t = k := by omega
          have h0 : n5 = 0 := by have h1 := HO5.out.len; have h2 := HP.out.len; omega
          subst h0
          clear hlt ht
          go_wp2_with fail
          go_ret
          exact ⟨rfl, HB.out⟩
end Go.Proofs.Ytpcbfoddlpgdjaa
