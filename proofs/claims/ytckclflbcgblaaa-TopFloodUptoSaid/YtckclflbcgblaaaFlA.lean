/- Probes: New, Offer, Want, Found, Knows. Printed by genFlA.py out of FlA.frame. -/
import Derived.Test.YtckclflbcgblaaaHpH
import Derived.Test.YtckclflbcgblaaaPlM
import Derived.Test.YtckclflbcgblaaaPmEF
namespace Go.Proofs.Ytckclflbcgblaaa
open Go.RowKit Go.Maps Go.ChangeMaps Go.MapKept
set_option maxRecDepth 100000 in
theorem tag_hasF (t : Int) (w : World) : Calls Try.prog 36 #[.int .u64 t, .int .u64 0] w fun e w' => e = .returned (.bool true) ∧ w = w' := by
  have h0 : (bits .andNot .u64 0 t == 0) = true := by unfold bits; simp; rfl
  go_enter Try.func36, Try.ntmps36
  go_wp2
  go_ret
  exact ⟨rfl, rfl⟩
theorem own_noneF {w : World} {B e sz n c : Nat} {xs : List Value} (h : w.ownsRow B e sz (.slice none n c) n xs) : n = 0 ∧ c = 0 := by
  rcases h.2 with ⟨q, _⟩ | ⟨g, cap, cur, q, _⟩
  · injection q with _ q1 q2; exact ⟨q1, q2⟩
  · cases q
theorem Rd.own_base {w : World} {base e n c : Nat} {A : Option Addr} {xs : List Value} {B : Nat} (h : w.ownsRow base e 1 (.slice A n c) n xs) (hB : ∀ b o, A = some ⟨b, o, none⟩ → b < B) : Rd w B A n xs := by
  have := Rd.of_own h
  refine ⟨this.1, fun hn => ?_⟩
  obtain ⟨b, o, e, _, hc⟩ := this.2 hn
  exact ⟨b, o, e, hB b o e, hc⟩
/-- The spot of an item. -/
def spO (q : IS) (d : ItX) (y : Int) : Sp := ⟨(distE q.xs d.vec.xs : Nat), d.id, y⟩
def prC (qv : IS) (m mb qb bb : Nat) : Array Value := #[qv.v, .int .u64 0, .int .i64 ((m : Nat) : Int), .map (some mb), .pointer (some ⟨qb, 0, none⟩), .pointer (some ⟨bb, 0, none⟩)]
/-- A probe: who was offered, of whom the best are kept, who waits. -/
structure FlS (w : World) (Bs : Nat → Prop) (pb mb qb bb : Nat) (qv : IS) (m : Nat) (offs : List Int) (SK SW : List Sp) : Prop where
  p : Blk w pb 72 (prC qv m mb qb bb)
  v : qv.Vec w mb
  c : ∃ D, MpAt w 3 mb offs.length D ∧ CmD .i64 D offs
  h : ∃ hq hb, HsAt w Bs [hq, hb] ∧ QueI qb SW hq ∧ BstI m bb SK hb
  b : mb < pb ∧ ∀ k, Bs k → mb < k ∧ k ≠ pb
section
variable {w w' : World} {Bs : Nat → Prop} {pb mb qb bb m : Nat} {qv : IS} {offs : List Int} {SK SW : List Sp}
theorem FlS.mlt (S : FlS w Bs pb mb qb bb qv m offs SK SW) : mb < w.heap.size := by obtain ⟨D, h, _⟩ := S.c; exact h.lt
theorem FlS.keep {S' : Nat → Prop} (S : FlS w Bs pb mb qb bb qv m offs SK SW) (hT : Tch S' w w') (hS : ∀ k, S' k → mb < k ∧ k ≠ pb ∧ ¬ Bs k) : FlS w' Bs pb mb qb bb qv m offs SK SW := by
  obtain ⟨D, h1, h2⟩ := S.c
  obtain ⟨hq, hb, h3, h4, h5⟩ := S.h
  exact ⟨S.p.tch hT (fun q => (hS _ q).2.1 rfl), S.v.below (hT.below (Nat.le_of_lt S.mlt) (fun k hk => Nat.le_of_lt (hS k hk).1)), ⟨D, h1.at_ (hT.block mb S.mlt (fun q => Nat.lt_irrefl _ (hS _ q).1)), h2⟩, ⟨hq, hb, h3.keep hT (fun k hk q => (hS k q).2.2 hk), h4, h5⟩, S.b⟩
theorem FlS.below (S : FlS w Bs pb mb qb bb qv m offs SK SW) (hb : Below w.heap.size w w') : FlS w' Bs pb mb qb bb qv m offs SK SW :=
  S.keep (Tch.of_below (S := fun _ => False) hb) (fun _ q => q.elim)
theorem FlS.more {Bs' : Nat → Prop} (S : FlS w Bs pb mb qb bb qv m offs SK SW) (h : ∀ k, k < w.heap.size → Bs k → Bs' k) (hb : ∀ k, Bs' k → mb < k ∧ k ≠ pb) : FlS w Bs' pb mb qb bb qv m offs SK SW := by
  obtain ⟨hq, hb', h3, h4, h5⟩ := S.h
  exact ⟨S.p, S.v, S.c, ⟨hq, hb', h3.more h, h4, h5⟩, S.b.1, hb⟩
/-- One that was counted. -/
theorem FlS.cnt {y : Int} {D : DataW Unit} (S : FlS w Bs pb mb qb bb qv m offs SK SW) (hT : Tch (fun k => k = mb) w w') (hD : CmD .i64 D offs) (hM : MpAt w' 3 mb (offs.length + 1) (D.put (.int .i64 y) (.lit (.int .i64 (((offs.count y : Nat) : Int) + 1))))) : FlS w' Bs pb mb qb bb qv m (offs ++ [y]) SK SW := by
  obtain ⟨hq, hb, h3, h4, h5⟩ := S.h
  exact ⟨S.p.tch hT (fun q => by have := S.b.1; omega), S.v.below (hT.below (Nat.le_of_lt S.mlt) (fun k hk => Nat.le_of_eq hk.symm)), ⟨_, by rw [List.length_append]; exact hM, hD.snoc y⟩, ⟨hq, hb, h3.keep hT (fun k hk q => by have := (S.b.2 k hk).1; omega), h4, h5⟩, S.b⟩
theorem FlS.push (S : FlS w Bs pb mb qb bb qv m offs SK SW) (x : Sp) (hs : SW.length < 1048576) (hB : ∀ k, w.heap.size ≤ k → Bs k) :
    Calls Try.prog 35 #[.pointer (some ⟨qb, 0, none⟩), spV x] w (fun e w' => e = .returned (.tuple #[]) ∧ FlS w' Bs pb mb qb bb qv m offs SK (SW ++ [x]) ∧ Tch Bs w w') := by
  obtain ⟨hq, hb, h3, h4, h5⟩ := S.h
  obtain ⟨D, h1, h2⟩ := S.c
  refine (q_pushH (i := 0) SW x w h3 rfl h4 hs hB).mono ?_
  rintro e w' ⟨rfl, h', g1, g2, g3⟩
  have hT : Tch Bs w w' := g3.mono fun k _ hk => h3.bs 0 hq rfl k hk
  exact ⟨rfl, ⟨S.p.tch hT (fun q => (S.b.2 _ q).2 rfl), S.v.below (hT.below (Nat.le_of_lt S.mlt) (fun k hk => Nat.le_of_lt (S.b.2 k hk).1)), ⟨D, h1.at_ (hT.block mb S.mlt (fun q => Nat.lt_irrefl _ (S.b.2 _ q).1)), h2⟩, ⟨h', hb, g1, g2, h5⟩, S.b⟩, hT⟩
theorem FlS.offer (hm : m ≤ 4096) (S : FlS w Bs pb mb qb bb qv m offs SK SW) (x : Sp) (hB : ∀ k, w.heap.size ≤ k → Bs k) :
    Calls Try.prog 37 #[.pointer (some ⟨bb, 0, none⟩), spV x] w (fun e w' => ∃ r, e = .returned (.bool r) ∧ FlS w' Bs pb mb qb bb qv m offs (SK ++ [x]) SW ∧ Tch Bs w w') := by
  obtain ⟨hq, hb, h3, h4, h5⟩ := S.h
  obtain ⟨D, h1, h2⟩ := S.c
  refine (b_offerH (i := 1) m hm SK x w h3 rfl h5 hB).mono ?_
  rintro e w' ⟨r, h', rfl, g1, g2, hT⟩
  exact ⟨r, rfl, ⟨S.p.tch hT (fun q => (S.b.2 _ q).2 rfl), S.v.below (hT.below (Nat.le_of_lt S.mlt) (fun k hk => Nat.le_of_lt (S.b.2 k hk).1)), ⟨D, h1.at_ (hT.block mb S.mlt (fun q => Nat.lt_irrefl _ (S.b.2 _ q).1)), h2⟩, ⟨hq, h', g1, h4, g2⟩, S.b⟩, hT⟩
theorem FlS.pop (S : FlS w Bs pb mb qb bb qv m offs SK SW) (h0 : SW ≠ []) (hs : SW.length ≤ 1048576) :
    Calls Try.prog 39 #[.pointer (some ⟨qb, 0, none⟩)] w (fun e w' => ∃ x SW', e = .returned (.tuple #[spV x, .bool true]) ∧ (x :: SW').Perm SW ∧ FlS w' Bs pb mb qb bb qv m offs SK SW' ∧ Tch Bs w w') := by
  obtain ⟨hq, hb, h3, ⟨q1, q2, q3, q4⟩, h5⟩ := S.h
  obtain ⟨D, h1, h2⟩ := S.c
  have hl := q4.length_eq
  have := q_popE hq w (h3.at_ 0 hq rfl) q2 q3 (by omega) (by rw [hl]; exact List.length_pos_iff.2 h0)
  rw [q1] at this
  refine this.mono ?_
  rintro e w' ⟨L', rfl, g1, g2, g3, g4⟩
  rw [← q1] at g1
  have hT : Tch Bs w w' := g4.mono fun k _ hk => h3.bs 0 hq rfl k hk
  have hH : HsAt w' Bs [{ hq with L := L' }, hb] := h3.stay (i := 0) rfl g1 g4 (fun k hk => hk)
  exact ⟨_, L', rfl, g2.trans q4, ⟨S.p.tch hT (fun q => (S.b.2 _ q).2 rfl), S.v.below (hT.below (Nat.le_of_lt S.mlt) (fun k hk => Nat.le_of_lt (S.b.2 k hk).1)), ⟨D, h1.at_ (hT.block mb S.mlt (fun q => Nat.lt_irrefl _ (S.b.2 _ q).1)), h2⟩, ⟨_, hb, hH, ⟨q1, q2, g3, .refl _⟩, h5⟩, S.b⟩, hT⟩
theorem load_mapF {b o mb' : Nat} (h : w.cell? ⟨b, o, none⟩ = some (.map (some mb'))) : (Instr.loadAt 63 (.pointer (some ⟨b, o, none⟩))).run Try.prog w = .ok (.map (some mb')) w := by
  simp [go_sem, h]
theorem load_ptrQ {b o : Nat} {A : Option Addr} (h : w.cell? ⟨b, o, none⟩ = some (.pointer A)) : (Instr.loadAt 67 (.pointer (some ⟨b, o, none⟩))).run Try.prog w = .ok (.pointer A) w := by
  simp [go_sem, h]
theorem load_ptrB {b o : Nat} {A : Option Addr} (h : w.cell? ⟨b, o, none⟩ = some (.pointer A)) : (Instr.loadAt 69 (.pointer (some ⟨b, o, none⟩))).run Try.prog w = .ok (.pointer A) w := by
  simp [go_sem, h]
end
set_option maxRecDepth 100000 in
set_option maxHeartbeats 2000000 in
theorem pr_newS (q : IS) (m : Nat) (hm : m ≤ 4096) (w : World) (hq : q.Vec w w.heap.size) (hn : q.n ≤ 1048576) :
    Calls Try.prog 14 #[q.v, .int .u64 0, .int .i64 ((m : Nat) : Int)] w (fun e w' => ∃ pb mb qb bb qv, e = .returned (.pointer (some ⟨pb, 0, none⟩)) ∧ Below w.heap.size w w' ∧ w.heap.size ≤ mb ∧ qv.xs = q.xs ∧ FlS w' (fun k => k = qb ∨ k = bb ∨ w'.heap.size ≤ k) pb mb qb bb qv m [] [] []) := by
  obtain ⟨A, n, c, xs⟩ := q
  have HC := Lib.hid (sl_cloneV A n c xs w hq.2.2.1 hn hq.1)
  have HX := Lib.hid hq.2.2.2
  have HN := Lib.hid hn
  have hmm := fun w => run_makeMap (P := Try.prog) 63 w
  have emx : min (max ((m : Nat) : Int) 0) 4096 = ((m : Nat) : Int) := by omega
  have HBN := fun w => b_newE ((m : Nat) : Int) w
  rw [emx] at HBN
  clear hq hn emx
  unfold IS.v
  go_enter Try.func14, Try.ntmps14
  go_wp2_with (first
    | (go_at_call 24; (with_reducible refine HC.out.mono ?_); rintro e w2 ⟨A', c', rfl, ho, hA, hb⟩; have HO := Lib.hid ho; have HA := Lib.hid hA; have HB2 := Lib.hid hb; clear ho hA hb)
    | (go_at_call 31; (with_reducible refine (q_newE _).mono ?_); rintro e w4 ⟨rfl, hw4⟩)
    | (go_at_call 32; (with_reducible refine (HBN _).mono ?_); rintro e w5 ⟨rfl, hw5⟩))
  go_ret
  have b3 := bel_box w2 (.map #[] 0)
  have s3 : (w2.alloc (.map #[] 0)).heap.size = w2.heap.size + 1 := by simp only [World.alloc, Array.size_push]
  have m3 : MpAt (w2.alloc (.map #[] 0)) 3 w2.heap.size 0 (.map []) := World.ownsMap_made w2 Try.prog 3 (plainElem (H := Unit) Try.prog 3)
  generalize w2.alloc (.map #[] 0) = w3 at *
  have b4 : Below w3.heap.size w3 w4 := by rw [← hw4]; exact bel_box _ _
  have s4 : w4.heap.size = w3.heap.size + 1 := by rw [← hw4]; simp only [World.alloc, Array.size_push]
  have b5 : Below w4.heap.size w4 w5 := by rw [← hw5]; exact bel_box _ _
  have s5 : w5.heap.size = w4.heap.size + 1 := by rw [← hw5]; simp only [World.alloc, Array.size_push]
  obtain ⟨hq, q1, q2, q3⟩ := que_new w3 w4 hw4
  obtain ⟨hb, k1, k2, k3, k4, k5, k6⟩ := best_new m w4 w5 hw5
  rw [← s3]
  obtain ⟨w6, hw6⟩ : ∃ x, w5.alloc (.cells #[.slice A' n c', .int .u64 0, .int .i64 ((m : Nat) : Int), .map (some w2.heap.size), .pointer (some ⟨w3.heap.size, 0, none⟩), .pointer (some ⟨w4.heap.size, 0, none⟩)] 72) = x := ⟨_, rfl⟩
  have b6 : Below w5.heap.size w5 w6 := by rw [← hw6]; exact bel_box _ _
  have p6 : Blk w6 w5.heap.size 72 (prC ⟨A', n, c', xs⟩ m w2.heap.size w3.heap.size w4.heap.size) := by rw [← hw6]; exact Blk.new _ _ _
  have s6 : w6.heap.size = w5.heap.size + 1 := by rw [← hw6]; simp only [World.alloc, Array.size_push]
  rw [hw6]
  have hz2 := HB2.out.size
  have H0 : HsAt w5 (fun k => w3.heap.size ≤ k) [hq, hb] := by
    refine HsAt.add (hs := [hq]) ?_ b5 k6 (fun k hk => ?_) (fun k hk => by omega)
    · refine HsAt.add (w := w3) (hs := []) (HsAt.nil_ _ _) b4 q3 (fun k hk => ?_) (fun k hk => hk)
      rcases hk with rfl | hk
      · rw [q1.1]; exact Nat.le_refl _
      · rw [q2] at hk; cases hk
    · rcases hk with rfl | hk
      · rw [k1]; exact Nat.le_refl _
      · rw [k4] at hk; cases hk
  refine ⟨w5.heap.size, w2.heap.size, w3.heap.size, w4.heap.size, ⟨A', n, c', xs⟩, rfl, ?_, hz2, rfl, ⟨p6, ?_, ⟨_, (((m3.below b4).below b5).below b6), CmD.nil_ .i64⟩, ⟨hq, hb, ?_, q1, ⟨k1, k2, k3, by rw [k5]; exact Hp.nil _, by rw [k5]; exact BI.start m⟩⟩, ?_⟩⟩
  · exact (((HB2.out.trans (b3.mono hz2)).trans (b4.mono (by omega))).trans (b5.mono (by omega))).trans (b6.mono (by omega))
  · have V2 : IS.Vec w2 w2.heap.size ⟨A', n, c', xs⟩ := ⟨fun e => by have e' : A' = none := e; have ho := HO.out; rw [e'] at ho; exact own_noneF ho, by have := HN.out; show n ≤ _; have h2 : n ≤ 1048576 := this; omega, Rd.of_own HO.out, HX.out⟩
    exact V2.below (((b3.trans (b4.mono (by omega))).trans (b5.mono (by omega))).trans (b6.mono (by omega)))
  · exact (H0.more (Bs' := fun k => k = w3.heap.size ∨ k = w4.heap.size ∨ w6.heap.size ≤ k) (fun k h1 h2 => by omega)).below b6
  · exact ⟨by omega, fun k hk => by omega⟩
set_option maxRecDepth 100000 in
set_option maxHeartbeats 4000000 in
theorem pr_offerS {Bs : Nat → Prop} {pb mb qb bb m : Nat} {qv : IS} {offs : List Int} {SK SW : List Sp} (hm : m ≤ 4096) (y : Int) (hy : (Lit.int .i64 y).wf = true) (d : ItX) (w : World) (S : FlS w Bs pb mb qb bb qv m offs SK SW) (hd : d.vec.Vec w mb) (hB : ∀ k, w.heap.size ≤ k → Bs k) (hn : offs.length ≤ 1048576) (hs : SW.length < 1048576) :
    Calls Try.prog 16 #[.pointer (some ⟨pb, 0, none⟩), .int .i64 y, .agg d.cells] w (fun e w' => ∃ r, e = .returned (.bool r) ∧ Tch (fun k => k = mb ∨ Bs k) w w' ∧ (y ∈ offs → FlS w' Bs pb mb qb bb qv m (offs ++ [y]) SK SW) ∧ (y ∉ offs → r = true ∧ FlS w' Bs pb mb qb bb qv m (offs ++ [y]) (SK ++ [spO qv d y]) (SW ++ [spO qv d y]))) := by
  obtain ⟨w1, hw1⟩ : ∃ x, w.alloc (.cells d.cells 32) = x := ⟨_, rfl⟩
  have hI : Blk w1 w.heap.size 32 d.cells := by rw [← hw1]; exact Blk.new _ _ _
  have b1 : Below w.heap.size w w1 := by rw [← hw1]; exact bel_box _ _
  have S1 := (S.more (Bs' := fun k => Bs k ∧ k ≠ w.heap.size) (fun k h1 h2 => ⟨h2, by omega⟩) (fun k hk => S.b.2 k hk.1)).below b1
  have HMB := Lib.hid S.b
  have hml := S.mlt
  have hpl := S.p.lt
  have hb1 := S.b.1
  obtain ⟨D, hmp, hcd⟩ := S1.c
  have c3 : w1.cell? ⟨pb, 3, none⟩ = some (.map (some mb)) := S1.p.cell 3
  have HM := Lib.hid hmp
  have HD := Lib.hid hcd
  have HS1 := Lib.hid S1
  have HI := Lib.hid hI
  have HV1 : Hid (d.vec.Vec w1 mb) := hd.below (b1.mono (by omega))
  have HBD := Lib.hid (And.intro hml (And.intro hpl hb1))
  have HBB := Lib.hid hB
  have HT1 : Hid (Tch (fun k => k = mb ∨ Bs k) w w1) := Tch.of_below b1
  have hkey := keyOf_int_mk (P := Try.prog) Try.underlying3 hy
  have hmx : offs.length < maxLen := by unfold maxLen; omega
  have HSI := Lib.hid (b1.size)
  obtain ⟨cn, hcn⟩ : ∃ cn : Nat, offs.count y = cn := ⟨_, rfl⟩
  have hcl : cn ≤ 1048576 := by have := count_le offs y; omega
  have HCN := Lib.hid hcn
  have HSN := Lib.hid (hcd.snoc y)
  have HCT2 : Hid ((offs ++ [y]).count y = cn + 1) := by show _ = _; rw [List.count_append, hcn]; simp
  have hvv := plainElem_int (H := Unit) (P := Try.prog) Try.underlying3 (wf_cnt (n := cn) (by omega))
  obtain ⟨nl, hnl⟩ : ∃ nl, offs.length = nl := ⟨_, rfl⟩
  rw [hnl] at HM hmx
  have HNL := Lib.hid hnl
  by_cases hk : y ∈ offs
  · have hc0 : 0 < cn := by rw [← hcn]; exact count_pos.2 hk
    have tg : decide ((cn : Int) + 1 > 1) = true := decide_eq_true (by omega)
    have tg' : decide ((1 : Int) < (cn : Int) + 1) = true := decide_eq_true (by omega)
    have HK := Lib.hid hk
    clear S hd hB hn hs hI b1 S1 hml hpl hb1 hmp hcd hy hcn hnl hc0 hk
    go_enter Try.func16, Try.ntmps16
    go_upto_region 1 with fail
    (try rw [hw1])
    clear hw1
    go_wp2_with (first
      | (at_lookup; refine wpList_lookup_own_int _ rfl (.tmp 13) (.tmp 14) 63 rfl 3 3 .i64 lawI Try.underlying63 Try.underlying3 (zeroI _) mb nl D rfl HM.out (.int .i64 y) (.int .i64 y) rfl hkey ?_; intro cc hat hwc; obtain rfl : cc = (cn : Int) := (cnt_eq HD.out hat).trans (by rw [HCN.out]); clear hat hwc)
      | (at_mapUpdate; refine wpList_mapUpdate_own _ rfl (.tmp 13) (.tmp 14) (.tmp 16) 63 rfl 3 3 lawI Try.underlying63 (plainElem Try.prog 3) mb nl D rfl HM.out hmx (.int .i64 y) (.int .i64 ((cn : Int) + 1)) (.int .i64 y) rfl rfl hkey (.lit (.int .i64 ((cn : Int) + 1))) [] hvv ?_; intro w2 hM2 hg2; have hT2 : Tch (fun k => k = mb) w1 w2 := ⟨hg2.os, hg2.tape, hg2.output, hg2.size, fun k q1 q2 => hg2.block k q1 (by intro e; injection e with e; exact q2 e)⟩; have S2 := HS1.out.cnt (y := y) hT2 HD.out (by rw [HNL.out, HCN.out]; exact hM2); have HS2 := Lib.hid S2; have c3' : w2.cell? ⟨pb, 3, none⟩ = some (.map (some mb)) := S2.p.cell 3; have HM2 := Lib.hid hM2; have HT2 : Hid (Tch (fun k => k = mb ∨ Bs k) w w2) := HT1.out.trans hT2 (fun k q => .inl (.inl q)); clear hM2 hg2 hT2 S2)
      | (at_lookup; refine wpList_lookup_own_int _ rfl (.tmp 20) (.tmp 21) 63 rfl 3 3 .i64 lawI Try.underlying63 Try.underlying3 (zeroI _) mb (nl + 1) _ rfl HM2.out (.int .i64 y) (.int .i64 y) rfl hkey ?_; intro cc hat hwc; obtain rfl : cc = (cn : Int) + 1 := (cnt_eq HSN.out (by rw [HCN.out]; exact hat)).trans (by rw [HCT2.out]; rfl); clear hat hwc))
    go_ret
    exact ⟨false, rfl, HT2.out, fun _ => HS2.out.more (fun k _ h => h.1) HMB.out.2, fun q => absurd HK.out q⟩
  · obtain rfl : cn = 0 := by rw [← hcn]; exact List.count_eq_zero.2 hk
    have HK := Lib.hid hk
    have HSL := Lib.hid hs
    clear S hd hB hn hs hI b1 S1 hml hpl hb1 hmp hcd hy hcn hnl hk hcl
    go_enter Try.func16, Try.ntmps16
    go_upto_region 1 with fail
    (try rw [hw1])
    clear hw1
    go_upto_region 6 with (first
      | (at_lookup; refine wpList_lookup_own_int _ rfl (.tmp 13) (.tmp 14) 63 rfl 3 3 .i64 lawI Try.underlying63 Try.underlying3 (zeroI _) mb nl D rfl HM.out (.int .i64 y) (.int .i64 y) rfl hkey ?_; intro cc hat hwc; obtain rfl : cc = 0 := (cnt_eq HD.out hat).trans (by rw [HCN.out]; rfl); clear hat hwc)
      | (at_mapUpdate; refine wpList_mapUpdate_own _ rfl (.tmp 13) (.tmp 14) (.tmp 16) 63 rfl 3 3 lawI Try.underlying63 (plainElem Try.prog 3) mb nl D rfl HM.out hmx (.int .i64 y) (.int .i64 1) (.int .i64 y) rfl rfl hkey (.lit (.int .i64 1)) [] (plainElem_int (H := Unit) (P := Try.prog) Try.underlying3 (by decide)) ?_; intro w2 hM2 hg2; have hT2 : Tch (fun k => k = mb) w1 w2 := ⟨hg2.os, hg2.tape, hg2.output, hg2.size, fun k q1 q2 => hg2.block k q1 (by intro e; injection e with e; exact q2 e)⟩; have S2 := HS1.out.cnt (y := y) hT2 HD.out (by rw [HNL.out, HCN.out]; exact hM2); have HS2 := Lib.hid S2; have c3' : w2.cell? ⟨pb, 3, none⟩ = some (.map (some mb)) := S2.p.cell 3; have HM2 := Lib.hid hM2; have HT2 : Hid (Tch (fun k => k = mb ∨ Bs k) w w2) := HT1.out.trans hT2 (fun k q => .inl (.inl q)); have HI2 : Hid (Blk w2 w.heap.size 32 d.cells) := HI.out.tch hT2 (by have := HBD.out.1; omega); have HV2 : Hid (d.vec.Vec w2 mb) := HV1.out.below (hT2.below (by have := HSI.out; have := HBD.out.1; omega) (fun k hk => Nat.le_of_eq hk.symm)); have HSZ : Hid (w.heap.size ≤ w2.heap.size) := Nat.le_trans HSI.out hT2.size; clear hM2 hg2 hT2 S2)
      | (at_lookup; refine wpList_lookup_own_int _ rfl (.tmp 20) (.tmp 21) 63 rfl 3 3 .i64 lawI Try.underlying63 Try.underlying3 (zeroI _) mb (nl + 1) _ rfl HM2.out (.int .i64 y) (.int .i64 y) rfl hkey ?_; intro cc hat hwc; obtain rfl : cc = 1 := (cnt_eq HSN.out (by rw [HCN.out]; exact hat)).trans (by rw [HCT2.out]; rfl); clear hat hwc))
    clear HM HM2 HI HT1 c3 c3' hkey HS1 HD HSN HCT2 HCN hvv
    have HDD : Hid (∀ W' : World, Below w2.heap.size w2 W' → Calls Try.prog 34 #[qv.v, d.vec.v] W' fun e w' => e = .returned (.int .u64 (distE qv.xs d.vec.xs : Nat)) ∧ W' = w') := by
      intro W' hb
      have hm2 := HS2.out.mlt
      refine (dist_c qv d.vec W' mb (HS2.out.v.below (hb.mono (by omega))) (HV2.out.below (hb.mono (by omega)))).mono ?_
      rintro e w' ⟨rfl, rfl⟩
      exact ⟨rfl, rfl⟩
    go_cut [7] from 24 to 35 (fun s7 wx => s7 = .pointer (some ⟨w2.drew.heap.size, 0, none⟩) ∧ Hid (Below w2.heap.size w2 wx) ∧ Hid (Blk wx w2.drew.heap.size 77 (spC ⟨(distE qv.xs d.vec.xs : Nat), d.id, y⟩)))
    case first =>
      refine wp_region_held_drew (S := fun w' => Below w2.heap.size w2 w') (by kernel_rfl) (below_drewN (Below.refl _ w2) 1) (fun hH => ?_)
      refine wpAnyH_take (i := 0) (v := .pointer (some ⟨pb, 0, none⟩)) rfl (by kernel_rfl) (by kernel_rfl) (by kernel_rfl) (fun _ _ _ h => h) (.inl ⟨by rfl, fun _ _ => by kernel_rfl⟩) hH ?_
      (try simp only [List.getElem_toArray, List.getElem_cons_zero, Act.put, List.setIfInBounds_toArray, List.set_cons_zero, List.set_cons_succ])
      refine wpAnyH_take (i := 1) (v := .pointer (some ⟨pb, 0, none⟩)) rfl (by kernel_rfl) (by kernel_rfl) (by kernel_rfl) (fun _ _ _ h => h) (.inl ⟨by rfl, fun _ _ => by kernel_rfl⟩) hH ?_
      (try simp only [List.getElem_toArray, List.getElem_cons_zero, List.getElem_cons_succ, Act.put, List.setIfInBounds_toArray, List.set_cons_zero, List.set_cons_succ])
      refine wpAnyH_take (i := 2) (v := .pointer (some ⟨pb, 0, none⟩)) rfl (by kernel_rfl) (by kernel_rfl) (by kernel_rfl) (fun _ _ _ h => h) (.inl ⟨by rfl, fun _ _ => by kernel_rfl⟩) hH ?_
      (try simp only [List.getElem_toArray, List.getElem_cons_zero, List.getElem_cons_succ, Act.put, List.setIfInBounds_toArray, List.set_cons_zero, List.set_cons_succ])
      refine wpAnyH_take (i := 3) (v := qv.v) rfl (by kernel_rfl) (by kernel_rfl) (by kernel_rfl) (fun _ _ _ h => h) (yieldsIf_loadP (by rfl) _ rfl rfl (fun _ q => load_i32sK ((HS2.out.p.below q HS2.out.p.lt).cell 0))) hH ?_
      (try simp only [List.getElem_toArray, List.getElem_cons_zero, List.getElem_cons_succ, Act.put, List.setIfInBounds_toArray, List.set_cons_zero, List.set_cons_succ])
      refine wpAnyH_take (i := 4) (v := .pointer (some ⟨w.heap.size, 1, none⟩)) rfl (by kernel_rfl) (by kernel_rfl) (by kernel_rfl) (fun _ _ _ h => h) (.inl ⟨by rfl, fun _ _ => by kernel_rfl⟩) hH ?_
      (try simp only [List.getElem_toArray, List.getElem_cons_zero, List.getElem_cons_succ, Act.put, List.setIfInBounds_toArray, List.set_cons_zero, List.set_cons_succ])
      refine wpAnyH_take (i := 5) (v := d.vec.v) rfl (by kernel_rfl) (by kernel_rfl) (by kernel_rfl) (fun _ _ _ h => h) (yieldsIf_loadP (by rfl) _ rfl rfl (fun _ q => load_i32sK ((HI2.out.below q HI2.out.lt).cell 1))) hH ?_
      (try simp only [List.getElem_toArray, List.getElem_cons_zero, List.getElem_cons_succ, Act.put, List.setIfInBounds_toArray, List.set_cons_zero, List.set_cons_succ])
      refine wpAnyH_take (i := 7) (v := .pointer (some ⟨w.heap.size, 0, none⟩)) rfl (by kernel_rfl) (by kernel_rfl) (by kernel_rfl) (fun _ _ _ h => h) (.inl ⟨by rfl, fun _ _ => by kernel_rfl⟩) hH ?_
      (try simp only [List.getElem_toArray, List.getElem_cons_zero, List.getElem_cons_succ, Act.put, List.setIfInBounds_toArray, List.set_cons_zero, List.set_cons_succ])
      refine wpAnyH_take (i := 8) (v := .int .u64 d.id) rfl (by kernel_rfl) (by kernel_rfl) (by kernel_rfl) (fun _ _ _ h => h) (yieldsIf_loadP (by rfl) _ rfl rfl (fun _ q => load_u64K ((HI2.out.below q HI2.out.lt).cell 0))) hH ?_
      (try simp only [List.getElem_toArray, List.getElem_cons_zero, List.getElem_cons_succ, Act.put, List.setIfInBounds_toArray, List.set_cons_zero, List.set_cons_succ])
      refine wpAnyH_take (i := 10) (v := .int .i64 y) rfl (by kernel_rfl) (by kernel_rfl) (by kernel_rfl) (fun _ _ _ h => h) (.inl ⟨by rfl, fun _ _ => by kernel_rfl⟩) hH ?_
      (try simp only [List.getElem_toArray, List.getElem_cons_zero, List.getElem_cons_succ, Act.put, List.setIfInBounds_toArray, List.set_cons_zero, List.set_cons_succ])
      have h1 : Below w2.heap.size w2 (w2.drew.alloc (.cells #[.int .u64 0, .int .u64 0, .int .i64 0] 77)) := hH.alloc hH.size _
      refine wpAnyH_all (rs := [6, 12]) (by kernel_rfl) (by simp) (fun i hi => ?_)
      rcases (by simpa using hi : i = 6 ∨ i = 12) with rfl | rfl
      · refine wpOp_call 34 #[qv.v, d.vec.v] _ (by rfl) (by kernel_rfl) (by kernel_rfl) (HDD.out _ hH) ?_
        rintro e Z ⟨rfl, rfl⟩
        refine ⟨_, rfl, hH, ?_⟩
        (try simp only [List.getElem_toArray, List.getElem_cons_zero, List.getElem_cons_succ, Act.put, List.setIfInBounds_toArray, List.set_cons_zero, List.set_cons_succ])
        refine wpAnyH_take (i := 9) (v := hitV ⟨(distE qv.xs d.vec.xs : Nat), d.id, y⟩) rfl (by kernel_rfl) (by kernel_rfl) (by kernel_rfl) (fun _ _ _ h => h) (.inl ⟨by rfl, fun _ _ => by kernel_rfl⟩) hH ?_
        (try simp only [List.getElem_toArray, List.getElem_cons_zero, List.getElem_cons_succ, Act.put, List.setIfInBounds_toArray, List.set_cons_zero, List.set_cons_succ])
        refine wpAnyH_take (i := 11) (v := spV ⟨(distE qv.xs d.vec.xs : Nat), d.id, y⟩) rfl (by kernel_rfl) (by kernel_rfl) (by kernel_rfl) (fun _ _ _ h => h) (.inl ⟨by rfl, fun _ _ => by kernel_rfl⟩) hH ?_
        (try simp only [List.getElem_toArray, List.getElem_cons_zero, List.getElem_cons_succ, Act.put, List.setIfInBounds_toArray, List.set_cons_zero, List.set_cons_succ])
        refine wpAnyH_makeK 12 (.pointer (some ⟨w2.drew.heap.size, 0, none⟩)) (by kernel_rfl) (by rfl) (by kernel_rfl) (by kernel_rfl) h1 ?_
        (try simp only [List.getElem_toArray, List.getElem_cons_zero, List.getElem_cons_succ, Act.put, List.setIfInBounds_toArray, List.set_cons_zero, List.set_cons_succ])
        have SR : (Instr.storeAt 77 (.pointer (some ⟨w2.drew.heap.size, 0, none⟩)) (spV ⟨(distE qv.xs d.vec.xs : Nat), d.id, y⟩)).run Try.prog (w2.drew.alloc (.cells #[.int .u64 0, .int .u64 0, .int .i64 0] 77)) = _ := spB_put w2.drew ⟨(distE qv.xs d.vec.xs : Nat), d.id, y⟩
        have hB3 := spB_blk w2.drew ⟨(distE qv.xs d.vec.xs : Nat), d.id, y⟩
        have b3 := put_bel w2.drew (.cells #[.int .u64 0, .int .u64 0, .int .i64 0] 77) (spC ⟨(distE qv.xs d.vec.xs : Nat), d.id, y⟩).toList
        obtain ⟨w3, hw3⟩ : ∃ x, (w2.drew.alloc (.cells #[.int .u64 0, .int .u64 0, .int .i64 0] 77)).setCells w2.drew.heap.size 0 (spC ⟨(distE qv.xs d.vec.xs : Nat), d.id, y⟩).toList = x := ⟨_, rfl⟩
        rw [hw3] at SR hB3 b3
        have h2 : Below w2.heap.size w2 w3 := hH.trans (b3.mono hH.size)
        refine wpAnyH_store 13 _ _ _ (by kernel_rfl) (by rfl) (by kernel_rfl) (by rfl) (by rfl) (by rfl) SR h2 ?_
        (try simp only [List.getElem_toArray, List.getElem_cons_zero, List.getElem_cons_succ, Act.put])
        refine wpAnyH_done (by kernel_rfl) ?_ _
        have H2 := Lib.hid h2
        have HB3 := Lib.hid hB3
        clear SR hB3 b3 h2 h1 hw3 hH
        go_wp2_with fail
        go_meet
        exact ⟨rfl, H2, HB3⟩
      · refine wpOp_value (w' := w2.drew.alloc (.cells #[.int .u64 0, .int .u64 0, .int .i64 0] 77)) (.pointer (some ⟨w2.drew.heap.size, 0, none⟩)) (by rfl) (by kernel_rfl) (by kernel_rfl) ⟨h1, ?_⟩
        (try simp only [List.getElem_toArray, List.getElem_cons_zero, List.getElem_cons_succ, Act.put, List.setIfInBounds_toArray, List.set_cons_zero, List.set_cons_succ])
        refine wpAnyH_call 6 34 #[qv.v, d.vec.v] _ (by kernel_rfl) (by rfl) (by kernel_rfl) (by kernel_rfl) (HDD.out _ h1) ?_
        rintro e Z ⟨rfl, rfl⟩
        refine ⟨_, rfl, h1, ?_⟩
        (try simp only [List.getElem_toArray, List.getElem_cons_zero, List.getElem_cons_succ, Act.put, List.setIfInBounds_toArray, List.set_cons_zero, List.set_cons_succ])
        refine wpAnyH_take (i := 9) (v := hitV ⟨(distE qv.xs d.vec.xs : Nat), d.id, y⟩) rfl (by kernel_rfl) (by kernel_rfl) (by kernel_rfl) (fun _ _ _ h => h) (.inl ⟨by rfl, fun _ _ => by kernel_rfl⟩) h1 ?_
        (try simp only [List.getElem_toArray, List.getElem_cons_zero, List.getElem_cons_succ, Act.put, List.setIfInBounds_toArray, List.set_cons_zero, List.set_cons_succ])
        refine wpAnyH_take (i := 11) (v := spV ⟨(distE qv.xs d.vec.xs : Nat), d.id, y⟩) rfl (by kernel_rfl) (by kernel_rfl) (by kernel_rfl) (fun _ _ _ h => h) (.inl ⟨by rfl, fun _ _ => by kernel_rfl⟩) h1 ?_
        (try simp only [List.getElem_toArray, List.getElem_cons_zero, List.getElem_cons_succ, Act.put, List.setIfInBounds_toArray, List.set_cons_zero, List.set_cons_succ])
        have SR : (Instr.storeAt 77 (.pointer (some ⟨w2.drew.heap.size, 0, none⟩)) (spV ⟨(distE qv.xs d.vec.xs : Nat), d.id, y⟩)).run Try.prog (w2.drew.alloc (.cells #[.int .u64 0, .int .u64 0, .int .i64 0] 77)) = _ := spB_put w2.drew ⟨(distE qv.xs d.vec.xs : Nat), d.id, y⟩
        have hB3 := spB_blk w2.drew ⟨(distE qv.xs d.vec.xs : Nat), d.id, y⟩
        have b3 := put_bel w2.drew (.cells #[.int .u64 0, .int .u64 0, .int .i64 0] 77) (spC ⟨(distE qv.xs d.vec.xs : Nat), d.id, y⟩).toList
        obtain ⟨w3, hw3⟩ : ∃ x, (w2.drew.alloc (.cells #[.int .u64 0, .int .u64 0, .int .i64 0] 77)).setCells w2.drew.heap.size 0 (spC ⟨(distE qv.xs d.vec.xs : Nat), d.id, y⟩).toList = x := ⟨_, rfl⟩
        rw [hw3] at SR hB3 b3
        have h2 : Below w2.heap.size w2 w3 := hH.trans (b3.mono hH.size)
        refine wpAnyH_store 13 _ _ _ (by kernel_rfl) (by rfl) (by kernel_rfl) (by rfl) (by rfl) (by rfl) SR h2 ?_
        (try simp only [List.getElem_toArray, List.getElem_cons_zero, List.getElem_cons_succ, Act.put])
        refine wpAnyH_done (by kernel_rfl) ?_ _
        have H2 := Lib.hid h2
        have HB3 := Lib.hid hB3
        clear SR hB3 b3 h2 h1 hw3 hH
        go_wp2_with fail
        go_meet
        exact ⟨rfl, H2, HB3⟩
    case rest =>
    obtain ⟨rfl, hh2, hhB⟩ := hcut
    obtain ⟨x, hx⟩ : ∃ x : Sp, (⟨(distE qv.xs d.vec.xs : Nat), d.id, y⟩ : Sp) = x := ⟨_, rfl⟩
    rw [hx] at hhB
    obtain ⟨w3, hw3⟩ : ∃ q, wc = q := ⟨_, rfl⟩
    rw [hw3] at hh2 hhB ⊢
    have h2 := hh2.out
    obtain ⟨sb, hsb⟩ : ∃ q, w2.drew.heap.size = q := ⟨_, rfl⟩
    have hsb2 : w2.heap.size = sb := hsb
    rw [hsb] at hhB ⊢
    have HX3 : Hid (Blk w3 sb 77 (spC x)) := hhB.out
    have HSL3 : Hid (sb < w3.heap.size ∧ w.heap.size ≤ sb) := ⟨HX3.out.lt, by have := HSZ.out; omega⟩
    have S3 : FlS w3 (fun k => (Bs k ∧ k ≠ w.heap.size) ∧ k ≠ sb) pb mb qb bb qv m (offs ++ [y]) SK SW := (HS2.out.more (Bs' := fun k => (Bs k ∧ k ≠ w.heap.size) ∧ k ≠ sb) (fun k h1 h2 => ⟨h2, by omega⟩) (fun k hk => HS2.out.b.2 k hk.1)).below h2
    have HBX : Hid (∀ k, w3.heap.size ≤ k → (Bs k ∧ k ≠ w.heap.size) ∧ k ≠ sb) := fun k hk => ⟨⟨HBB.out k (by have := HSL3.out; omega), by have := HSL3.out; omega⟩, by have := HSL3.out; omega⟩
    have HI3 : Hid (Blk w3 w.heap.size 32 d.cells) := HI2.out.below h2 HI2.out.lt
    have HT3 : Hid (Tch (fun k => k = mb ∨ Bs k) w w3) := HT2.out.trans (Tch.of_below (S := fun k => k = mb ∨ Bs k) h2) (fun k q => .inl q)
    have HPU := Lib.hid (FlS.push (S3.below (w' := w3.drew) (below_drewN (Below.refl _ w3) 1)) x HSL.out HBX.out)
    have HP3 := Lib.hid S3.p
    have HBN : Hid (∀ k, ((Bs k ∧ k ≠ w.heap.size) ∧ k ≠ sb) → k ≠ pb ∧ k ≠ sb) := fun k hk => ⟨(HMB.out.2 k hk.1.1).2, hk.2⟩
    clear h2 hh2 hhB hw3 HT2 HI2 S3 HDD HS2 hsb hsb2 HSZ HV2
    go_upto_region 7 with fail
    refine wp_region_held_drew (S := fun w' => Blk w' pb 72 (prC qv m mb qb bb) ∧ Blk w' sb 77 (spC x)) (by kernel_rfl) (⟨HP3.out, HX3.out⟩) (fun hH => ?_)
    refine wpAnyH_take (i := 0) (v := .pointer (some ⟨pb, 0, none⟩)) rfl (by kernel_rfl) (by kernel_rfl) (by kernel_rfl) (fun _ _ _ h => h) (.inl ⟨by rfl, fun _ _ => by kernel_rfl⟩) hH ?_
    (try simp only [List.getElem_toArray, List.getElem_cons_zero, Act.put, List.setIfInBounds_toArray, List.set_cons_zero, List.set_cons_succ])
    refine wpAnyH_take (i := 1) (v := .pointer (some ⟨pb, 0, none⟩)) rfl (by kernel_rfl) (by kernel_rfl) (by kernel_rfl) (fun _ _ _ h => h) (.inl ⟨by rfl, fun _ _ => by kernel_rfl⟩) hH ?_
    (try simp only [List.getElem_toArray, List.getElem_cons_zero, List.getElem_cons_succ, Act.put, List.setIfInBounds_toArray, List.set_cons_zero, List.set_cons_succ])
    refine wpAnyH_take (i := 2) (v := .pointer (some ⟨pb, 4, none⟩)) rfl (by kernel_rfl) (by kernel_rfl) (by kernel_rfl) (fun _ _ _ h => h) (.inl ⟨by rfl, fun _ _ => by kernel_rfl⟩) hH ?_
    (try simp only [List.getElem_toArray, List.getElem_cons_zero, List.getElem_cons_succ, Act.put, List.setIfInBounds_toArray, List.set_cons_zero, List.set_cons_succ])
    refine wpAnyH_take (i := 3) (v := .pointer (some ⟨qb, 0, none⟩)) rfl (by kernel_rfl) (by kernel_rfl) (by kernel_rfl) (fun _ _ _ h => h) (yieldsIf_loadP (by rfl) _ rfl rfl (fun _ q => load_ptrQ (q.1.cell 4))) hH ?_
    (try simp only [List.getElem_toArray, List.getElem_cons_zero, List.getElem_cons_succ, Act.put, List.setIfInBounds_toArray, List.set_cons_zero, List.set_cons_succ])
    refine wpAnyH_take (i := 4) (v := spV x) rfl (by kernel_rfl) (by kernel_rfl) (by kernel_rfl) (fun _ _ _ h => h) (yieldsIf_loadP (by rfl) _ rfl rfl (fun _ q => spB_load q.2)) hH ?_
    (try simp only [List.getElem_toArray, List.getElem_cons_zero, List.getElem_cons_succ, Act.put, List.setIfInBounds_toArray, List.set_cons_zero, List.set_cons_succ])
    refine wpAnyH_call 5 35 #[.pointer (some ⟨qb, 0, none⟩), spV x] _ (by kernel_rfl) (by rfl) (by kernel_rfl) (by kernel_rfl) HPU.out ?_
    rintro e w4 ⟨rfl, hz, ht⟩
    have ht3 : Tch (fun k => (Bs k ∧ k ≠ w.heap.size) ∧ k ≠ sb) w3 w4 := ⟨ht.os, ht.tape, ht.output, ht.size, ht.block⟩
    have HPS4 : Hid (Blk w4 pb 72 (prC qv m mb qb bb) ∧ Blk w4 sb 77 (spC x)) := ⟨HP3.out.tch ht3 (fun q => (HBN.out _ q).1 rfl), HX3.out.tch ht3 (fun q => q.2 rfl)⟩
    refine ⟨_, rfl, HPS4.out, ?_⟩
    have HS4 := Lib.hid hz
    have hzt := Lib.hid ht3
    have hzi : Hid (Blk w4 w.heap.size 32 d.cells) := HI3.out.tch ht3 (fun q => q.1.2 rfl)
    clear hz ht ht3
    (try simp only [List.getElem_toArray, List.getElem_cons_zero, List.getElem_cons_succ, Act.put, List.setIfInBounds_toArray, List.set_cons_zero, List.set_cons_succ])
    refine wpAnyH_done (by kernel_rfl) ?_ _
    have HZT : Hid (Tch (fun k => k = mb ∨ Bs k) w w4) := HT3.out.trans (hzt.out.mono (S' := fun k => Bs k) (fun k _ hk => hk.1.1)) (fun k q => .inl (.inr q))
    have HI4 : Hid (Blk w4 w.heap.size 32 d.cells) := hzi.out
    go_upto_region 8 with fail
    refine wp_region_held_drew (S := fun w' => Below w4.heap.size w4 w') (by kernel_rfl) (below_drewN (Below.refl _ w4) 1) (fun hH => ?_)
    refine wpAnyH_take (i := 0) (v := .pointer (some ⟨w.heap.size, 2, none⟩)) rfl (by kernel_rfl) (by kernel_rfl) (by kernel_rfl) (fun _ _ _ h => h) (.inl ⟨by rfl, fun _ _ => by kernel_rfl⟩) hH ?_
    (try simp only [List.getElem_toArray, List.getElem_cons_zero, Act.put, List.setIfInBounds_toArray, List.set_cons_zero, List.set_cons_succ])
    refine wpAnyH_take (i := 1) (v := .int .u64 d.tags) rfl (by kernel_rfl) (by kernel_rfl) (by kernel_rfl) (fun _ _ _ h => h) (yieldsIf_loadP (by rfl) _ rfl rfl (fun _ q => load_u64K ((HI4.out.below q HI4.out.lt).cell 2))) hH ?_
    (try simp only [List.getElem_toArray, List.getElem_cons_zero, List.getElem_cons_succ, Act.put, List.setIfInBounds_toArray, List.set_cons_zero, List.set_cons_succ])
    refine wpAnyH_take (i := 2) (v := .pointer (some ⟨pb, 0, none⟩)) rfl (by kernel_rfl) (by kernel_rfl) (by kernel_rfl) (fun _ _ _ h => h) (.inl ⟨by rfl, fun _ _ => by kernel_rfl⟩) hH ?_
    (try simp only [List.getElem_toArray, List.getElem_cons_zero, List.getElem_cons_succ, Act.put, List.setIfInBounds_toArray, List.set_cons_zero, List.set_cons_succ])
    refine wpAnyH_take (i := 3) (v := .pointer (some ⟨pb, 0, none⟩)) rfl (by kernel_rfl) (by kernel_rfl) (by kernel_rfl) (fun _ _ _ h => h) (.inl ⟨by rfl, fun _ _ => by kernel_rfl⟩) hH ?_
    (try simp only [List.getElem_toArray, List.getElem_cons_zero, List.getElem_cons_succ, Act.put, List.setIfInBounds_toArray, List.set_cons_zero, List.set_cons_succ])
    refine wpAnyH_take (i := 4) (v := .pointer (some ⟨pb, 1, none⟩)) rfl (by kernel_rfl) (by kernel_rfl) (by kernel_rfl) (fun _ _ _ h => h) (.inl ⟨by rfl, fun _ _ => by kernel_rfl⟩) hH ?_
    (try simp only [List.getElem_toArray, List.getElem_cons_zero, List.getElem_cons_succ, Act.put, List.setIfInBounds_toArray, List.set_cons_zero, List.set_cons_succ])
    refine wpAnyH_take (i := 5) (v := .int .u64 0) rfl (by kernel_rfl) (by kernel_rfl) (by kernel_rfl) (fun _ _ _ h => h) (yieldsIf_loadP (by rfl) _ rfl rfl (fun _ q => load_u64K ((HPS4.out.1.below q HPS4.out.1.lt).cell 1))) hH ?_
    (try simp only [List.getElem_toArray, List.getElem_cons_zero, List.getElem_cons_succ, Act.put, List.setIfInBounds_toArray, List.set_cons_zero, List.set_cons_succ])
    refine wpAnyH_call 6 36 #[.int .u64 d.tags, .int .u64 0] _ (by kernel_rfl) (by rfl) (by kernel_rfl) (by kernel_rfl) (tag_hasF d.tags _) ?_
    rintro e Z ⟨rfl, rfl⟩
    refine ⟨_, rfl, hH, ?_⟩
    (try simp only [List.getElem_toArray, List.getElem_cons_zero, List.getElem_cons_succ, Act.put, List.setIfInBounds_toArray, List.set_cons_zero, List.set_cons_succ])
    refine wpAnyH_done (by kernel_rfl) ?_ _
    have HS5 : Hid (FlS w4.drew (fun k => (Bs k ∧ k ≠ w.heap.size) ∧ k ≠ sb) pb mb qb bb qv m (offs ++ [y]) SK (SW ++ [x])) := HS4.out.below (w' := w4.drew) (below_drewN (Below.refl _ w4) 1)
    obtain ⟨w5, hw5⟩ : ∃ q, w4.drew = q := ⟨_, rfl⟩
    have HZ5 : Hid (Tch (fun k => k = mb ∨ Bs k) w w5) := by show Tch _ _ _; rw [← hw5]; exact HZT.out.drewN 1
    have HPS5 : Hid (Blk w5 pb 72 (prC qv m mb qb bb) ∧ Blk w5 sb 77 (spC x)) := by show _ ∧ _; rw [← hw5]; exact HPS4.out
    have hsz5 : w3.heap.size ≤ w5.heap.size := by rw [← hw5]; exact hzt.out.size
    rw [hw5] at HS5 ⊢
    have HOF := Lib.hid (FlS.offer hm (HS5.out.below (w' := w5.drew) (below_drewN (Below.refl _ w5) 1)) x (fun k hk => HBX.out k (Nat.le_trans hsz5 hk)))
    clear hH hw5
    go_upto_region 9 with fail
    refine wp_region_held_drew (S := fun w' => Blk w' pb 72 (prC qv m mb qb bb) ∧ Blk w' sb 77 (spC x)) (by kernel_rfl) (HPS5.out) (fun hH => ?_)
    refine wpAnyH_take (i := 0) (v := .pointer (some ⟨pb, 0, none⟩)) rfl (by kernel_rfl) (by kernel_rfl) (by kernel_rfl) (fun _ _ _ h => h) (.inl ⟨by rfl, fun _ _ => by kernel_rfl⟩) hH ?_
    (try simp only [List.getElem_toArray, List.getElem_cons_zero, Act.put, List.setIfInBounds_toArray, List.set_cons_zero, List.set_cons_succ])
    refine wpAnyH_take (i := 1) (v := .pointer (some ⟨pb, 0, none⟩)) rfl (by kernel_rfl) (by kernel_rfl) (by kernel_rfl) (fun _ _ _ h => h) (.inl ⟨by rfl, fun _ _ => by kernel_rfl⟩) hH ?_
    (try simp only [List.getElem_toArray, List.getElem_cons_zero, List.getElem_cons_succ, Act.put, List.setIfInBounds_toArray, List.set_cons_zero, List.set_cons_succ])
    refine wpAnyH_take (i := 2) (v := .pointer (some ⟨pb, 5, none⟩)) rfl (by kernel_rfl) (by kernel_rfl) (by kernel_rfl) (fun _ _ _ h => h) (.inl ⟨by rfl, fun _ _ => by kernel_rfl⟩) hH ?_
    (try simp only [List.getElem_toArray, List.getElem_cons_zero, List.getElem_cons_succ, Act.put, List.setIfInBounds_toArray, List.set_cons_zero, List.set_cons_succ])
    refine wpAnyH_take (i := 3) (v := .pointer (some ⟨bb, 0, none⟩)) rfl (by kernel_rfl) (by kernel_rfl) (by kernel_rfl) (fun _ _ _ h => h) (yieldsIf_loadP (by rfl) _ rfl rfl (fun _ q => load_ptrB (q.1.cell 5))) hH ?_
    (try simp only [List.getElem_toArray, List.getElem_cons_zero, List.getElem_cons_succ, Act.put, List.setIfInBounds_toArray, List.set_cons_zero, List.set_cons_succ])
    refine wpAnyH_take (i := 4) (v := spV x) rfl (by kernel_rfl) (by kernel_rfl) (by kernel_rfl) (fun _ _ _ h => h) (yieldsIf_loadP (by rfl) _ rfl rfl (fun _ q => spB_load q.2)) hH ?_
    (try simp only [List.getElem_toArray, List.getElem_cons_zero, List.getElem_cons_succ, Act.put, List.setIfInBounds_toArray, List.set_cons_zero, List.set_cons_succ])
    refine wpAnyH_call 5 37 #[.pointer (some ⟨bb, 0, none⟩), spV x] _ (by kernel_rfl) (by rfl) (by kernel_rfl) (by kernel_rfl) HOF.out ?_
    rintro e w6 ⟨r6, rfl, hz, ht⟩
    have ht3 : Tch (fun k => (Bs k ∧ k ≠ w.heap.size) ∧ k ≠ sb) w5 w6 := ⟨ht.os, ht.tape, ht.output, ht.size, ht.block⟩
    refine ⟨_, rfl, ⟨HPS5.out.1.tch ht3 (fun q => (HBN.out _ q).1 rfl), HPS5.out.2.tch ht3 (fun q => q.2 rfl)⟩, ?_⟩
    have HS6 := Lib.hid hz
    have HZ6 : Hid (Tch (fun k => k = mb ∨ Bs k) w w6) := HZ5.out.trans ht3 (fun k q => .inl (.inr q.1.1))
    clear hz ht ht3
    (try simp only [List.getElem_toArray, List.getElem_cons_zero, List.getElem_cons_succ, Act.put, List.setIfInBounds_toArray, List.set_cons_zero, List.set_cons_succ])
    refine wpAnyH_done (by kernel_rfl) ?_ _
    go_wp2_with fail
    go_ret
    subst hx
    exact ⟨true, rfl, HZ6.out, fun q => absurd q HK.out, fun _ => ⟨rfl, HS6.out.more (fun k _ hk => hk.1.1) HMB.out.2⟩⟩
theorem sp_storeNew (w : World) (x : Sp) : (Instr.storeAt 77 (.pointer (some ⟨w.heap.size, 0, none⟩)) (spV x)).run Try.prog (w.alloc (.cells #[.int .u64 0, .int .u64 0, .int .i64 0] 77)) = .ok () ((w.alloc (.cells #[.int .u64 0, .int .u64 0, .int .i64 0] 77)).setCells w.heap.size 0 (spC x).toList) := spB_put w x
theorem FlS.peek {w : World} {Bs : Nat → Prop} {pb mb qb bb m : Nat} {qv : IS} {offs : List Int} {SK SW : List Sp} (S : FlS w Bs pb mb qb bb qv m offs SK SW) :
    ∃ x, ∀ W, Below w.heap.size w W → Calls Try.prog 57 #[.pointer (some ⟨qb, 0, none⟩)] W (fun e w' => e = .returned (.tuple #[spV x, .bool (decide (0 < SW.length))]) ∧ Below W.heap.size W w') := by
  obtain ⟨hq, hb, h3, ⟨q1, q2, q3, q4⟩, h5⟩ := S.h
  refine ⟨sg hq.L 0, fun W hW => ?_⟩
  have := q_peek hq W ((h3.at_ 0 hq rfl).tch (Tch.of_below (S := fun _ => False) hW) (fun _ _ q => q))
  rw [q1, q4.length_eq] at this
  exact this
theorem FlS.worst {w : World} {Bs : Nat → Prop} {pb mb qb bb m : Nat} {qv : IS} {offs : List Int} {SK SW : List Sp} (S : FlS w Bs pb mb qb bb qv m offs SK SW) :
    ∃ x, (∀ W, Below w.heap.size w W → Calls Try.prog 55 #[.pointer (some ⟨bb, 0, none⟩)] W (fun e w' => e = .returned (.tuple #[spV x, .bool (decide (0 < min m SK.length))]) ∧ Below W.heap.size W w')) ∧
      ∀ W, Below w.heap.size w W → Calls Try.prog 54 #[.pointer (some ⟨bb, 0, none⟩)] W (fun e w' => e = .returned (.bool (decide (m ≤ min m SK.length))) ∧ Below W.heap.size W w') := by
  obtain ⟨hq, hb, h3, h4, ⟨q1, q2, q3, q4, q5⟩⟩ := S.h
  refine ⟨sg hb.L 0, fun W hW => ?_, fun W hW => ?_⟩
  · have := b_worst hb W ((h3.at_ 1 hb rfl).tch (Tch.of_below (S := fun _ => False) hW) (fun _ _ q => q))
    rw [q1, q5.len] at this
    exact this
  · have := b_fullE m hb W ((h3.at_ 1 hb rfl).tch (Tch.of_below (S := fun _ => False) hW) (fun _ _ q => q)) q3
    rw [q1, q5.len] at this
    exact this
set_option maxRecDepth 100000 in
set_option maxHeartbeats 4000000 in
/-- Whether nothing that waits can be among the best. -/
theorem pr_done {w : World} {Bs : Nat → Prop} {pb mb qb bb m : Nat} {qv : IS} {offs : List Int} {SK SW : List Sp} (S : FlS w Bs pb mb qb bb qv m offs SK SW) :
    ∃ r : Bool, (r = true → SW = [] ∨ m ≤ SK.length) ∧ (r = false → SW ≠ []) ∧ ∀ W, Below w.heap.size w W → Calls Try.prog 38 #[.pointer (some ⟨pb, 0, none⟩)] W (RetB r W) := by
  obtain ⟨x, hx⟩ := S.peek
  obtain ⟨y, hy, hf⟩ := S.worst
  have hpk : ∀ W, Below w.heap.size w W → W.cell? ⟨pb, 4, none⟩ = some (.pointer (some ⟨qb, 0, none⟩)) ∧ W.cell? ⟨pb, 5, none⟩ = some (.pointer (some ⟨bb, 0, none⟩)) ∧ W.cell? ⟨pb, 2, none⟩ = some (.int .i64 ((m : Nat) : Int)) := fun W hW =>
    have h := S.p.below hW S.p.lt
    ⟨h.cell 4, h.cell 5, h.cell 2⟩
  by_cases h0 : SW = []
  · refine ⟨true, fun _ => .inl h0, fun q => (by cases q), fun W hW => ?_⟩
    have t0 : decide (0 < SW.length) = false := by rw [h0]; rfl
    rw [t0] at hx
    have HX := Lib.hid hx
    have HPK := Lib.hid hpk
    obtain ⟨z4, z5, z2⟩ := hpk W hW
    have HW := Lib.hid hW
    clear hx hy hf hpk S h0 t0 hW
    go_enter Try.func38, Try.ntmps38
    go_wp2_with (first
      | (go_at_call 57; (with_reducible refine (HX.out _ HW.out).mono ?_); rintro e w1 ⟨rfl, hb⟩; have HB0 := Lib.hid (HW.out.trans (hb.mono HW.out.size)); have SR1 := sp_storeNew w1 x; have b1 := put_bel w1 (.cells #[.int .u64 0, .int .u64 0, .int .i64 0] 77) (spC x).toList; have k1 := spB_blk w1 x; obtain ⟨x1, hx1⟩ : ∃ q, (w1.alloc (.cells #[.int .u64 0, .int .u64 0, .int .i64 0] 77)).setCells w1.heap.size 0 (spC x).toList = q := ⟨_, rfl⟩; rw [hx1] at SR1 b1 k1; have HB1 : Hid (Below W.heap.size W x1) := (hb.trans (b1.mono hb.size)); have HW1 : Hid (Below w.heap.size w x1) := HW.out.trans (HB1.out.mono HW.out.size); obtain ⟨y4, y5, y2⟩ := HPK.out x1 HW1.out; have HK1 := Lib.hid k1; clear hb b1 hx1 k1)
      | refine wpList_storeE SR1 _ _ rfl rfl rfl rfl ?_)
    go_ret
    exact ⟨rfl, HB1.out⟩
  have t0 : decide (0 < SW.length) = true := decide_eq_true (List.length_pos_iff.2 h0)
  rw [t0] at hx
  by_cases hm : m = 0
  · refine ⟨true, fun _ => .inr (by omega), fun q => (by cases q), fun W hW => ?_⟩
    subst hm
    have HX := Lib.hid hx
    have HPK := Lib.hid hpk
    obtain ⟨z4, z5, z2⟩ := hpk W hW
    have HW := Lib.hid hW
    clear hx hy hf hpk S h0 t0 hW
    go_enter Try.func38, Try.ntmps38
    go_wp2_with (first
      | (go_at_call 57; (with_reducible refine (HX.out _ HW.out).mono ?_); rintro e w1 ⟨rfl, hb⟩; have HB0 := Lib.hid (HW.out.trans (hb.mono HW.out.size)); have SR1 := sp_storeNew w1 x; have b1 := put_bel w1 (.cells #[.int .u64 0, .int .u64 0, .int .i64 0] 77) (spC x).toList; have k1 := spB_blk w1 x; obtain ⟨x1, hx1⟩ : ∃ q, (w1.alloc (.cells #[.int .u64 0, .int .u64 0, .int .i64 0] 77)).setCells w1.heap.size 0 (spC x).toList = q := ⟨_, rfl⟩; rw [hx1] at SR1 b1 k1; have HB1 : Hid (Below W.heap.size W x1) := (hb.trans (b1.mono hb.size)); have HW1 : Hid (Below w.heap.size w x1) := HW.out.trans (HB1.out.mono HW.out.size); obtain ⟨y4, y5, y2⟩ := HPK.out x1 HW1.out; have HK1 := Lib.hid k1; clear hb b1 hx1 k1)
      | refine wpList_storeE SR1 _ _ rfl rfl rfl rfl ?_)
    go_ret
    exact ⟨rfl, HB1.out⟩
  have tm : decide (((m : Nat) : Int) < 1) = false := decide_eq_false (by omega)
  have hsel : ∃ r0 r1 : Bool, decide (0 < min m SK.length) = r0 ∧ decide (m ≤ min m SK.length) = r1 := ⟨_, _, rfl, rfl⟩
  obtain ⟨r0, r1, e0, e1⟩ := hsel
  rw [e0] at hy
  rw [e1] at hf
  cases r0
  · refine ⟨false, fun q => (by cases q), fun _ => h0, fun W hW => ?_⟩
    have HX := Lib.hid hx
    have HY := Lib.hid hy
    have HPK := Lib.hid hpk
    obtain ⟨z4, z5, z2⟩ := hpk W hW
    have HW := Lib.hid hW
    clear hx hy hf hpk S h0 t0 hW e0 e1
    go_enter Try.func38, Try.ntmps38
    go_wp2_with (first
      | (go_at_call 57; (with_reducible refine (HX.out _ HW.out).mono ?_); rintro e w1 ⟨rfl, hb⟩; have HB0 := Lib.hid (HW.out.trans (hb.mono HW.out.size)); have SR1 := sp_storeNew w1 x; have b1 := put_bel w1 (.cells #[.int .u64 0, .int .u64 0, .int .i64 0] 77) (spC x).toList; have k1 := spB_blk w1 x; obtain ⟨x1, hx1⟩ : ∃ q, (w1.alloc (.cells #[.int .u64 0, .int .u64 0, .int .i64 0] 77)).setCells w1.heap.size 0 (spC x).toList = q := ⟨_, rfl⟩; rw [hx1] at SR1 b1 k1; have HB1 : Hid (Below W.heap.size W x1) := (hb.trans (b1.mono hb.size)); have HW1 : Hid (Below w.heap.size w x1) := HW.out.trans (HB1.out.mono HW.out.size); obtain ⟨y4, y5, y2⟩ := HPK.out x1 HW1.out; have HK1 := Lib.hid k1; clear hb b1 hx1 k1)
      | refine wpList_storeE SR1 _ _ rfl rfl rfl rfl ?_
      | (go_at_call 55; (with_reducible refine (HY.out _ HW1.out).mono ?_); rintro e w2 ⟨rfl, hb⟩; have SR2 := sp_storeNew w2 y; have b2 := put_bel w2 (.cells #[.int .u64 0, .int .u64 0, .int .i64 0] 77) (spC y).toList; have k2 := spB_blk w2 y; obtain ⟨x2, hx2⟩ : ∃ q, (w2.alloc (.cells #[.int .u64 0, .int .u64 0, .int .i64 0] 77)).setCells w2.heap.size 0 (spC y).toList = q := ⟨_, rfl⟩; rw [hx2] at SR2 b2 k2; have HB12 : Hid (Below x1.heap.size x1 x2) := (hb.trans (b2.mono hb.size)); have HB2 : Hid (Below W.heap.size W x2) := HB1.out.trans (HB12.out.mono HB1.out.size); have HW2 : Hid (Below w.heap.size w x2) := HW.out.trans (HB2.out.mono HW.out.size); obtain ⟨v4, v5, v2⟩ := HPK.out x2 HW2.out; have HK2 := Lib.hid k2; have HK12 : Hid (Blk x2 w1.heap.size 77 (spC x)) := HK1.out.below HB12.out HK1.out.lt; clear hb b2 hx2 k2)
      | refine wpList_storeE SR2 _ _ rfl rfl rfl rfl ?_)
    go_ret
    exact ⟨rfl, HB2.out⟩
  cases r1
  · refine ⟨false, fun q => (by cases q), fun _ => h0, fun W hW => ?_⟩
    have HX := Lib.hid hx
    have HY := Lib.hid hy
    have HF := Lib.hid hf
    have HPK := Lib.hid hpk
    obtain ⟨z4, z5, z2⟩ := hpk W hW
    have HW := Lib.hid hW
    clear hx hy hf hpk S h0 t0 hW e0 e1
    go_enter Try.func38, Try.ntmps38
    go_wp2_with (first
      | (go_at_call 57; (with_reducible refine (HX.out _ HW.out).mono ?_); rintro e w1 ⟨rfl, hb⟩; have HB0 := Lib.hid (HW.out.trans (hb.mono HW.out.size)); have SR1 := sp_storeNew w1 x; have b1 := put_bel w1 (.cells #[.int .u64 0, .int .u64 0, .int .i64 0] 77) (spC x).toList; have k1 := spB_blk w1 x; obtain ⟨x1, hx1⟩ : ∃ q, (w1.alloc (.cells #[.int .u64 0, .int .u64 0, .int .i64 0] 77)).setCells w1.heap.size 0 (spC x).toList = q := ⟨_, rfl⟩; rw [hx1] at SR1 b1 k1; have HB1 : Hid (Below W.heap.size W x1) := (hb.trans (b1.mono hb.size)); have HW1 : Hid (Below w.heap.size w x1) := HW.out.trans (HB1.out.mono HW.out.size); obtain ⟨y4, y5, y2⟩ := HPK.out x1 HW1.out; have HK1 := Lib.hid k1; clear hb b1 hx1 k1)
      | refine wpList_storeE SR1 _ _ rfl rfl rfl rfl ?_
      | (go_at_call 55; (with_reducible refine (HY.out _ HW1.out).mono ?_); rintro e w2 ⟨rfl, hb⟩; have SR2 := sp_storeNew w2 y; have b2 := put_bel w2 (.cells #[.int .u64 0, .int .u64 0, .int .i64 0] 77) (spC y).toList; have k2 := spB_blk w2 y; obtain ⟨x2, hx2⟩ : ∃ q, (w2.alloc (.cells #[.int .u64 0, .int .u64 0, .int .i64 0] 77)).setCells w2.heap.size 0 (spC y).toList = q := ⟨_, rfl⟩; rw [hx2] at SR2 b2 k2; have HB12 : Hid (Below x1.heap.size x1 x2) := (hb.trans (b2.mono hb.size)); have HB2 : Hid (Below W.heap.size W x2) := HB1.out.trans (HB12.out.mono HB1.out.size); have HW2 : Hid (Below w.heap.size w x2) := HW.out.trans (HB2.out.mono HW.out.size); obtain ⟨v4, v5, v2⟩ := HPK.out x2 HW2.out; have HK2 := Lib.hid k2; have HK12 : Hid (Blk x2 w1.heap.size 77 (spC x)) := HK1.out.below HB12.out HK1.out.lt; clear hb b2 hx2 k2)
      | refine wpList_storeE SR2 _ _ rfl rfl rfl rfl ?_
      | (go_at_call 54; (with_reducible refine (HF.out _ HW2.out).mono ?_); rintro e w3 ⟨rfl, hb⟩; have HB3 := Lib.hid (HB2.out.trans (hb.mono HB2.out.size)); have L2 : (Instr.loadAt 77 (.pointer (some ⟨w2.heap.size, 0, none⟩))).run Try.prog w3 = .ok (spV y) w3 := spB_load (HK2.out.below hb HK2.out.lt); have L1 : (Instr.loadAt 77 (.pointer (some ⟨w1.heap.size, 0, none⟩))).run Try.prog w3 = .ok (spV x) w3 := spB_load (HK12.out.below hb HK12.out.lt); clear hb))
    go_ret
    exact ⟨rfl, HB3.out⟩
  · refine ⟨ahB y x, fun _ => .inr (by have := of_decide_eq_true e1; omega), fun _ => h0, fun W hW => ?_⟩
    have HX := Lib.hid hx
    have HY := Lib.hid hy
    have HF := Lib.hid hf
    have HPK := Lib.hid hpk
    obtain ⟨z4, z5, z2⟩ := hpk W hW
    have HW := Lib.hid hW
    clear hx hy hf hpk S h0 t0 hW e0 e1
    go_enter Try.func38, Try.ntmps38
    go_wp2_with (first
      | (go_at_call 57; (with_reducible refine (HX.out _ HW.out).mono ?_); rintro e w1 ⟨rfl, hb⟩; have HB0 := Lib.hid (HW.out.trans (hb.mono HW.out.size)); have SR1 := sp_storeNew w1 x; have b1 := put_bel w1 (.cells #[.int .u64 0, .int .u64 0, .int .i64 0] 77) (spC x).toList; have k1 := spB_blk w1 x; obtain ⟨x1, hx1⟩ : ∃ q, (w1.alloc (.cells #[.int .u64 0, .int .u64 0, .int .i64 0] 77)).setCells w1.heap.size 0 (spC x).toList = q := ⟨_, rfl⟩; rw [hx1] at SR1 b1 k1; have HB1 : Hid (Below W.heap.size W x1) := (hb.trans (b1.mono hb.size)); have HW1 : Hid (Below w.heap.size w x1) := HW.out.trans (HB1.out.mono HW.out.size); obtain ⟨y4, y5, y2⟩ := HPK.out x1 HW1.out; have HK1 := Lib.hid k1; clear hb b1 hx1 k1)
      | refine wpList_storeE SR1 _ _ rfl rfl rfl rfl ?_
      | (go_at_call 55; (with_reducible refine (HY.out _ HW1.out).mono ?_); rintro e w2 ⟨rfl, hb⟩; have SR2 := sp_storeNew w2 y; have b2 := put_bel w2 (.cells #[.int .u64 0, .int .u64 0, .int .i64 0] 77) (spC y).toList; have k2 := spB_blk w2 y; obtain ⟨x2, hx2⟩ : ∃ q, (w2.alloc (.cells #[.int .u64 0, .int .u64 0, .int .i64 0] 77)).setCells w2.heap.size 0 (spC y).toList = q := ⟨_, rfl⟩; rw [hx2] at SR2 b2 k2; have HB12 : Hid (Below x1.heap.size x1 x2) := (hb.trans (b2.mono hb.size)); have HB2 : Hid (Below W.heap.size W x2) := HB1.out.trans (HB12.out.mono HB1.out.size); have HW2 : Hid (Below w.heap.size w x2) := HW.out.trans (HB2.out.mono HW.out.size); obtain ⟨v4, v5, v2⟩ := HPK.out x2 HW2.out; have HK2 := Lib.hid k2; have HK12 : Hid (Blk x2 w1.heap.size 77 (spC x)) := HK1.out.below HB12.out HK1.out.lt; clear hb b2 hx2 k2)
      | refine wpList_storeE SR2 _ _ rfl rfl rfl rfl ?_
      | (go_at_call 54; (with_reducible refine (HF.out _ HW2.out).mono ?_); rintro e w3 ⟨rfl, hb⟩; have HB3 := Lib.hid (HB2.out.trans (hb.mono HB2.out.size)); have L2 : (Instr.loadAt 77 (.pointer (some ⟨w2.heap.size, 0, none⟩))).run Try.prog w3 = .ok (spV y) w3 := spB_load (HK2.out.below hb HK2.out.lt); have L1 : (Instr.loadAt 77 (.pointer (some ⟨w1.heap.size, 0, none⟩))).run Try.prog w3 = .ok (spV x) w3 := spB_load (HK12.out.below hb HK12.out.lt); clear hb)
      | refine wpList_loadE L2 _ rfl rfl rfl ?_
      | refine wpList_loadE L1 _ rfl rfl rfl ?_
      | (refine wpList_unguard rfl ?_; refine wpList_loadE L2 _ rfl rfl rfl ?_)
      | (refine wpList_unguard rfl ?_; refine wpList_loadE L1 _ rfl rfl rfl ?_)
      | (go_at_call 49; (with_reducible refine (rank_spot y x _).mono ?_); rintro e w4 ⟨rfl, g1⟩; have HB4 := Lib.hid (HB3.out.trans (g1.below.mono HB3.out.size))))
    go_ret
    exact ⟨rfl, HB4.out⟩
set_option maxRecDepth 100000 in
set_option maxHeartbeats 4000000 in
/-- Who is wanted next. -/
theorem pr_want {w : World} {Bs : Nat → Prop} {pb mb qb bb m : Nat} {qv : IS} {offs : List Int} {SK SW : List Sp} (S : FlS w Bs pb mb qb bb qv m offs SK SW) (hs : SW.length ≤ 1048576) :
    ((SW = [] ∨ m ≤ SK.length) ∧ Calls Try.prog 17 #[.pointer (some ⟨pb, 0, none⟩)] w (fun e w' => e = .returned (.tuple #[.int .i64 0, .bool false]) ∧ Below w.heap.size w w')) ∨
    Calls Try.prog 17 #[.pointer (some ⟨pb, 0, none⟩)] w (fun e w' => ∃ (x : Sp) (SW' : List Sp), e = .returned (.tuple #[.int .i64 x.s, .bool true]) ∧ (x :: SW').Perm SW ∧ FlS w' Bs pb mb qb bb qv m offs SK SW' ∧ Tch Bs w w') := by
  obtain ⟨r, h1, h2, hd⟩ := pr_done S
  cases r
  · refine .inr ?_
    have h0 := h2 rfl
    have HD := Lib.hid (hd w (Below.refl _ _))
    have HS := Lib.hid S
    have HL := Lib.hid (And.intro h0 hs)
    have z4 : ∀ W, Below w.heap.size w W → W.cell? ⟨pb, 4, none⟩ = some (.pointer (some ⟨qb, 0, none⟩)) := fun W hW => (S.p.below hW S.p.lt).cell 4
    have HZ := Lib.hid z4
    clear S hs h1 h2 hd h0 z4
    go_enter Try.func17, Try.ntmps17
    go_upto_region 3 with (go_at_call 38; (with_reducible refine HD.out.mono ?_); rintro e w2 ⟨rfl, hb⟩; have c4 := HZ.out w2 hb; have HP := Lib.hid (FlS.pop (HS.out.below hb) HL.out.1 HL.out.2); have HT2 : Hid (Tch Bs w w2) := Tch.of_below hb; clear hb)
    go_wp2_with (first
      | (go_at_call 39; (with_reducible refine HP.out.mono ?_); rintro e w3 ⟨x, SW', rfl, hpm, hs, ht⟩; have HPM := Lib.hid hpm; have HS3 := Lib.hid hs; have HT3 := Lib.hid (HT2.out.trans ht (fun k q => .inl q)); have SR := sp_storeNew w3 x; have hB3 := spB_blk w3 x; have b3 := put_bel w3 (.cells #[.int .u64 0, .int .u64 0, .int .i64 0] 77) (spC x).toList; obtain ⟨w4, hw4⟩ : ∃ q, (w3.alloc (.cells #[.int .u64 0, .int .u64 0, .int .i64 0] 77)).setCells w3.heap.size 0 (spC x).toList = q := ⟨_, rfl⟩; rw [hw4] at SR hB3 b3; have cs : w4.cell? ⟨w3.heap.size, 2, none⟩ = some (.int .i64 x.s) := hB3.cell 2; have HB4 := Lib.hid b3; clear hpm hs ht hw4 hB3 b3)
      | refine wpList_storeE SR _ _ rfl rfl rfl rfl ?_)
    go_ret2
    exact ⟨x, SW', rfl, HPM.out, HS3.out.below HB4.out, HT3.out.trans (Tch.of_below (S := Bs) HB4.out) (fun k q => .inl q)⟩
  · refine .inl ⟨h1 rfl, ?_⟩
    have HD := Lib.hid (hd w (Below.refl _ _))
    clear S hs h1 h2 hd
    go_enter Try.func17, Try.ntmps17
    go_wp2_with (go_at_call 38; (with_reducible refine HD.out.mono ?_); rintro e w2 ⟨rfl, hb⟩; have HB := Lib.hid hb; clear hb)
    go_ret2
    exact ⟨rfl, HB.out⟩
set_option maxRecDepth 100000 in
theorem pr_found {w : World} {Bs : Nat → Prop} {pb mb qb bb m : Nat} {qv : IS} {offs : List Int} {SK SW : List Sp} (hm : m ≤ 4096) (S : FlS w Bs pb mb qb bb qv m offs SK SW) :
    Calls Try.prog 19 #[.pointer (some ⟨pb, 0, none⟩)] w (RetO ((sortSp SK).take m) w) := by
  obtain ⟨hq, hb, h3, h4, h5⟩ := S.h
  have HL := Lib.hid (b_listH (i := 1) m hm w h3 rfl h5)
  have z5 : w.cell? ⟨pb, 5, none⟩ = some (.pointer (some ⟨bb, 0, none⟩)) := S.p.cell 5
  clear S h3 h4 h5
  go_enter Try.func19, Try.ntmps19
  go_wp2_with (go_at_call 40; (with_reducible refine HL.out.mono ?_); rintro e w1 ⟨A', n', c', rfl, hs, h1, h2, h3, hb⟩; replace hs := Lib.hid hs; replace h1 := Lib.hid h1; replace h2 := Lib.hid h2; replace h3 := Lib.hid h3; replace hb := Lib.hid hb)
  go_ret
  exact ⟨A', n', c', rfl, hs.out, h1.out, h2.out, h3.out, hb.out⟩
set_option maxRecDepth 100000 in
theorem pr_knows {w : World} {Bs : Nat → Prop} {pb mb qb bb m : Nat} {qv : IS} {offs : List Int} {SK SW : List Sp} (S : FlS w Bs pb mb qb bb qv m offs SK SW) (y : Int) (hy : (Lit.int .i64 y).wf = true) :
    Calls Try.prog 18 #[.pointer (some ⟨pb, 0, none⟩), .int .i64 y] w (RetB (decide (y ∈ offs)) w) := by
  obtain ⟨D, hmp, hcd⟩ := S.c
  have HM := Lib.hid hmp
  have HD := Lib.hid hcd
  have z3 : w.cell? ⟨pb, 3, none⟩ = some (.map (some mb)) := S.p.cell 3
  have hkey := keyOf_int_mk (P := Try.prog) Try.underlying3 hy
  obtain ⟨cn, hcn⟩ : ∃ cn : Nat, offs.count y = cn := ⟨_, rfl⟩
  have HCN := Lib.hid hcn
  have er : decide (y ∈ offs) = decide (0 < cn) := decide_eq_decide.2 (by rw [← count_pos, hcn])
  rw [er]
  obtain ⟨nl, hnl⟩ : ∃ nl, offs.length = nl := ⟨_, rfl⟩
  rw [hnl] at HM
  clear S hmp hcd hcn hnl er hy
  go_enter Try.func18, Try.ntmps18
  go_wp2_with (at_lookup; refine wpList_unguard rfl ?_; refine wpList_lookup_own_int _ rfl (.tmp 11) (.tmp 12) 63 rfl 3 3 .i64 lawI Try.underlying63 Try.underlying3 (zeroI _) mb nl D rfl HM.out (.int .i64 y) (.int .i64 y) rfl hkey ?_; intro cc hat hwc; obtain rfl : cc = (cn : Int) := (cnt_eq HD.out hat).trans (by rw [HCN.out]); clear hat hwc)
  go_ret
  exact ⟨rfl, Below.refl _ _⟩
end Go.Proofs.Ytckclflbcgblaaa
