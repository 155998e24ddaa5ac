/- strings.SplitSeq at plus: the iterator's rounds. -/
import Derived.Test.YtokgcjhlmohjgaaDoorTagD
import Derived.RangeFuncBound
import Derived.OwnWalkIn
import Derived.TacticsInMore
import Derived.LoopNIn
import Derived.LoopIn
import Derived.Lib.IndexLaws
namespace Go.Proofs.YtokgcjhlmohjgaaDoor
open Go.RowKit Go.Shelf
/-- The first plus, or -1. -/
def idxP (s : List Int) : Int := Lib.indexByte (strOfNums s).data.toList 43
theorem str_data (s : List Int) : (strOfNums s).data.toList = s.map fun n => UInt8.ofNat n.toNat := by simp [strOfNums]
theorem byte43 {s : List Int} (hs : Bytes s) {k : Nat} (hk : k < s.length) : ((s.map fun n => UInt8.ofNat n.toNat)[k]? = some 43) ↔ ig s k = 43 := by
  have h := hs _ (ig_mem hk)
  have hg : (s.map fun n => UInt8.ofNat n.toNat)[k]? = some (UInt8.ofNat (ig s k).toNat) := by
    rw [List.getElem?_map, List.getElem?_eq_getElem hk]
    simp [ig, List.getD_eq_getElem?_getD, hk]
  rw [hg]
  constructor
  · intro e
    have e2 := Option.some.inj e
    have := congrArg UInt8.toNat e2
    rw [UInt8.toNat_ofNat'] at this
    have h3 : (43 : UInt8).toNat = 43 := by decide
    rw [h3] at this
    omega
  · intro e
    rw [e]; rfl
theorem idx_cases {s : List Int} (hs : Bytes s) : (idxP s = -1 ∧ ∀ j, j < s.length → ig s j ≠ 43) ∨ (∃ k : Nat, idxP s = k ∧ k < s.length ∧ ig s k = 43 ∧ ∀ j, j < k → ig s j ≠ 43) := by
  have hd := str_data s
  have hge := Lib.indexByte_ge (strOfNums s).data.toList 43
  by_cases h : Lib.indexByte (strOfNums s).data.toList 43 = -1
  · refine .inl ⟨h, fun j hj e => ?_⟩
    have := Lib.indexByte_none h j
    rw [hd] at this
    exact this ((byte43 hs hj).2 e)
  · obtain ⟨k, hk⟩ : ∃ k : Nat, Lib.indexByte (strOfNums s).data.toList 43 = k := Int.eq_ofNat_of_zero_le (by omega)
    obtain ⟨h1, h2⟩ := Lib.indexByte_some hk
    rw [hd] at h1 h2
    have hlt : k < s.length := by
      have := (List.getElem?_eq_some_iff.1 h1).1
      simpa using this
    exact .inr ⟨k, hk, hlt, (byte43 hs hlt).1 h1, fun j hj e => h2 j hj ((byte43 hs (by omega)).2 e)⟩
theorem index_plus (s : List Int) (w : World) : Calls Tryd.prog 45 #[.string (strOfNums s), .string ⟨#[43]⟩] w fun e w' => e = .returned (.int .i64 (idxP s)) ∧ w' = w := strings_index_one (strOfNums s) 43 w
/-- The three boxes of the closure. -/
structure Cut3 (W : World) (b : Nat) (r : List Int) : Prop where
  s : Boxed W b 9 (.string (strOfNums r))
  p : Boxed W (b + 1) 9 (.string ⟨#[43]⟩)
  z : Boxed W (b + 2) 3 (.int .i64 0)
/-- What a round keeps. -/
def Kp3 (b : Nat) (A B : World) : Prop := B.heap[b]? = A.heap[b]? ∧ B.heap[b + 1]? = A.heap[b + 1]? ∧ B.heap[b + 2]? = A.heap[b + 2]?
theorem Kp3.trans {b : Nat} {A B C : World} (h : Kp3 b A B) (k : Kp3 b B C) : Kp3 b A C := ⟨k.1.trans h.1, k.2.1.trans h.2.1, k.2.2.trans h.2.2⟩
theorem Cut3.kp {A B : World} {b : Nat} {r : List Int} (h : Cut3 A b r) (k : Kp3 b A B) : Cut3 B b r := ⟨k.1.trans h.s, k.2.1.trans h.p, k.2.2.trans h.z⟩
theorem Cut3.set_ {A : World} {b : Nat} {r : List Int} (h : Cut3 A b r) (r' : List Int) : Cut3 (A.setCell ⟨b, 0, none⟩ (.string (strOfNums r'))) b r' :=
  ⟨h.s.set _, (Below.heap_setCell A _ _ (b + 1) (by show b + 1 ≠ b; omega)).trans h.p, (Below.heap_setCell A _ _ (b + 2) (by show b + 2 ≠ b; omega)).trans h.z⟩
/-- How much is left. -/
def leftW (b : Nat) (W : World) : Nat := match W.cell? ⟨b, 0, none⟩ with | some (.string s) => s.size | _ => 0
theorem leftW_eq {W : World} {b : Nat} {r : List Int} (h : Cut3 W b r) : leftW b W = r.length := by unfold leftW; rw [h.s.cell]; exact strOfNums_size r
theorem split_len {s r : List Int} {k : Nat} (h : splitL s = (splitL s).take k ++ splitL r) (hk : k ≤ (splitL s).length) : (splitL s).length = k + (splitL r).length := by
  have := congrArg List.length h
  rw [List.length_append, List.length_take] at this
  omega
theorem split_at {s r : List Int} {k : Nat} (h : splitL s = (splitL s).take k ++ splitL r) (hk : k ≤ (splitL s).length) {x : List Int} {rest : List (List Int)} (hr : splitL r = x :: rest) : k < (splitL s).length ∧ tg (splitL s) k = x ∧ splitL s = (splitL s).take (k + 1) ++ rest := by
  have hl := split_len h hk
  rw [hr, List.length_cons] at hl
  have hlt : k < (splitL s).length := by omega
  have e : tg (splitL s) k = x := by
    have : (splitL s)[k]? = ((splitL s).take k ++ x :: rest)[k]? := by rw [← hr, ← h]
    rw [List.getElem?_append_right (by rw [List.length_take]; omega), List.length_take, Nat.min_eq_left hk, Nat.sub_self] at this
    simp [tg, List.getD_eq_getElem?_getD, this]
  refine ⟨hlt, e, ?_⟩
  rw [take_tg hlt, e, List.append_assoc]
  rw [hr] at h
  exact h
attribute [local go_sem] Oper.semAt_some
set_option maxRecDepth 100000 in
set_option maxHeartbeats 2000000 in
theorem split_gives (s : List Int) (hs : Bytes s) (hl : s.length ≤ 4194304) (b : Nat) (w : World) (hc : Cut3 w b s) :
    Gives Tryd.prog 43 #[.pointer (some ⟨b + 1, 0, none⟩), .pointer (some ⟨b, 0, none⟩), .pointer (some ⟨b + 2, 0, none⟩)] (fun k => .string (strOfNums (tg (splitL s) k))) (splitL s).length b (Kp3 b) w := by
  intro l J Jx W hW hJ hY h0
  have hcW : Cut3 W b s := ⟨(hW.block b hc.s.lt).trans hc.s, (hW.block (b + 1) hc.p.lt).trans hc.p, (hW.block (b + 2) hc.z.lt).trans hc.z⟩
  obtain ⟨T, hT⟩ : ∃ T, splitL s = T := ⟨_, rfl⟩
  have HT := Lib.hid hT
  refine callsIn_of_wp Tryd.func43 rfl trivial ?_ rfl
  simp only [Tryd.ntmps43, List.size_toArray, List.length_cons, List.length_nil, Nat.reduceAdd, Nat.reduceSub, Array.replicate_succ, Array.replicate_zero, List.push_toArray, List.append_toArray, List.nil_append, List.cons_append]
  have hp1 := hcW.p.cell
  rw [hT] at hY
  rw [hT]
  clear hT
  gi_wp2
  gi_loopw [] (fun wr => ∃ (k : Nat) (r : List Int), Cut3 wr b r ∧ J k wr ∧ Hid (T = T.take k ++ splitL r) ∧ k ≤ T.length ∧ Hid (Bytes r) ∧ r.length ≤ s.length) (fun wr => leftW b wr)
  case atStart => exact ⟨0, s, hcW, h0, (show T = T.take 0 ++ splitL s by rw [HT.out]; rfl), Nat.zero_le _, hs, Nat.le_refl _⟩
  case round =>
    obtain ⟨k, r, hc3, hJk, hT3, hk, hbr, hrl⟩ := hrel
    have h1 := hc3.s.cell
    have h2 := hc3.p.cell
    have h3 := hc3.z.cell
    have h4 := hc3.s.frozen
    have hle := leftW_eq hc3
    rcases idx_cases hbr.out with ⟨hi, hno⟩ | ⟨i, hi, hir, hic, hno⟩
    · have hsp : splitL r = [r] := split_miss r hno
      obtain ⟨q1, q2, q3⟩ := split_at (s := s) (r := r) (k := k) (by rw [HT.out]; exact hT3.out) (by rw [HT.out]; exact hk) hsp
      rw [HT.out] at q1 q2 q3
      have hlast : T.length = k + 1 := by
        have := congrArg List.length q3
        rw [List.length_append, List.length_take] at this
        simp at this
        omega
      have hin := index_plus r wr
      rw [hi] at hin
      obtain ⟨fn, tmps, assign, body, hy, hR⟩ := hY k wr q1 hJk
      rw [q2] at hy
      clear q2 q3 hno hi hsp
      gi_wp2_with (refine ⟨trivial, ?_⟩; gi_at_call 45; refine (callsIn_wide.2 hin).mono ?_; rintro e w2 ⟨rfl, rfl⟩)
      refine hR.mono ?_
      rintro e W3 (⟨rfl, hJ3, _⟩ | ⟨rfl, hx3⟩)
      · gi_wp2
        go_end0
        exact ⟨⟨_, rfl⟩, .inl (by rw [hlast]; exact hJ3)⟩
      · gi_wp2
        go_end0
        exact ⟨⟨_, rfl⟩, .inr hx3⟩
    · have hsp := split_hit r i hir hno hic
      obtain ⟨q1, q2, q3⟩ := split_at (s := s) (r := r) (k := k) (by rw [HT.out]; exact hT3.out) (by rw [HT.out]; exact hk) hsp
      rw [HT.out] at q1 q2 q3
      have HQ3 := Lib.hid q3
      have hin := index_plus r wr
      rw [hi] at hin
      obtain ⟨fn, tmps, assign, body, hy, hR⟩ := hY k wr q1 hJk
      rw [q2] at hy
      have hx1 : (strOfNums r).extract 0 i = strOfNums (r.take i) := by have := str_extract r 0 i; simpa using this
      have hx2 : (strOfNums r).extract (i + 1) r.length = strOfNums (r.drop (i + 1)) := by
        have := str_extract r (i + 1) r.length
        rw [List.take_of_length_le (by rw [List.length_drop]; omega)] at this
        exact this
      have hss := strOfNums_size r
      have hbr2 : Hid (Bytes (r.drop (i + 1))) := fun c hc => hbr.out c (List.mem_of_mem_drop hc)
      clear q2 q3 hno hi hic hsp
      gi_wp2_with (refine ⟨trivial, ?_⟩; gi_at_call 45; refine (callsIn_wide.2 hin).mono ?_; rintro e w2 ⟨rfl, rfl⟩)
      refine hR.mono ?_
      rintro e W3 (⟨rfl, hJ3, hkp⟩ | ⟨rfl, hx3⟩)
      · have hc4 := hc3.kp hkp
        have g1 := hc4.s.cell
        have g2 := hc4.p.cell
        have g4 := hc4.s.frozen
        clear hin hy hR h1 h2 h3 h4
        gi_wp2
        refine ⟨⟨k + 1, r.drop (i + 1), hc4.set_ _, hJ _ _ _ hJ3, HQ3, q1, hbr2, by simp; omega⟩, ?_⟩
        rw [leftW_eq (hc4.set_ _), hle]
        simp
        omega
      · gi_wp2
        refine bodyPost_ret (results_none rfl _ _ _) rfl ?_
        exact ⟨⟨_, rfl⟩, .inr hx3⟩
theorem split_seq0 (s : List Int) (w : World) : Calls Tryd.prog 35 #[.string (strOfNums s), .string ⟨#[43]⟩, .int .i64 0] w fun e w' =>
    e = .returned (.func (.func 43) #[] #[.pointer (some ⟨w.heap.size + 1, 0, none⟩), .pointer (some ⟨w.heap.size, 0, none⟩), .pointer (some ⟨w.heap.size + 2, 0, none⟩)]) ∧
    w' = ((w.alloc (.cells #[.string (strOfNums s)] 9)).alloc (.cells #[.string ⟨#[43]⟩] 9)).alloc (.cells #[.int .i64 0] 3) := by
  go_enter Tryd.func35, Tryd.ntmps35
  go_wp2_with fail
  go_ret
  exact ⟨rfl, rfl⟩
theorem split_seq (s : List Int) (w : World) : Calls Tryd.prog 22 #[.string (strOfNums s), .string ⟨#[43]⟩] w fun e w' =>
    e = .returned (.func (.func 43) #[] #[.pointer (some ⟨w.heap.size + 1, 0, none⟩), .pointer (some ⟨w.heap.size, 0, none⟩), .pointer (some ⟨w.heap.size + 2, 0, none⟩)]) ∧
    Below w.heap.size w w' ∧ w'.heap.size = w.heap.size + 3 ∧ Cut3 w' w.heap.size s := by
  have h0 := Lib.hid (split_seq0 s w)
  go_enter Tryd.func22, Tryd.ntmps22
  go_wp2_with fail
  refine h0.out.mono ?_
  rintro e w1 ⟨rfl, rfl⟩
  go_wp2_with fail
  go_ret
  have b1 := Boxed.new w 9 (.string (strOfNums s))
  have b2 := Boxed.new (w.alloc (.cells #[.string (strOfNums s)] 9)) 9 (.string ⟨#[43]⟩)
  have b3 := Boxed.new ((w.alloc (.cells #[.string (strOfNums s)] 9)).alloc (.cells #[.string ⟨#[43]⟩] 9)) 3 (.int .i64 0)
  rw [World.size_alloc] at b2 b3
  rw [World.size_alloc] at b3
  exact ⟨rfl, (((Below.refl _ w).alloc (Nat.le_refl _) _).alloc (by simp) _).alloc (by simp; omega) _, by simp, ⟨(b1.alloc _).alloc _, b2.alloc _, b3⟩⟩
end Go.Proofs.YtokgcjhlmohjgaaDoor
