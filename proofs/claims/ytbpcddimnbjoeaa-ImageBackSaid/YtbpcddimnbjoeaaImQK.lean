/- Images: how bytes are read (plain); the reader's numbers, memory, node. Merged of ImQ ImI ImJ ImK. -/
import Derived.Test.YtbpcddimnbjoeaaImEH
import Derived.Test.YtbpcddimnbjoeaaLitNX
import Derived.Test.YtbpcddimnbjoeaaTch
import Derived.Test.YtbpcddimnbjoeaaPmGM
import Derived.Test.YtbpcddimnbjoeaaPackAll
import Derived.Laws.OwnMore
import Derived.Laws.MakeOwn
import Derived.Deep.AppendLies
import Derived.Maps.AppendAt
namespace Go.Proofs.Ytbpcddimnbjoeaa
open Go.RowKit
/-- A reader: what has not been read, and the first error. -/
structure RS where
  l : List Int
  e : Int
def takeR (s : RS) (lo hi : Nat) : RS × Nat :=
  if s.e = 0 then
    if (numOf s.l).2.2 = 0 then
      if (numOf s.l).1 < lo ∨ hi < (numOf s.l).1 then (⟨s.l.drop (numOf s.l).2.1, 6⟩, 0) else (⟨s.l.drop (numOf s.l).2.1, 0⟩, (numOf s.l).1)
    else (⟨s.l.drop (numOf s.l).2.1, ((numOf s.l).2.2 : Nat)⟩, 0)
  else (s, 0)
theorem takeR_bad {s : RS} (h : s.e ≠ 0) (lo hi : Nat) : takeR s lo hi = (s, 0) := if_neg h
theorem takeR_le (s : RS) (lo hi : Nat) : (takeR s lo hi).2 ≤ hi := by
  unfold takeR
  split
  · split
    · split
      · exact Nat.zero_le _
      · simp only; omega
    · exact Nat.zero_le _
  · exact Nat.zero_le _
theorem takeR_sub (s : RS) (lo hi : Nat) : ∃ k, (takeR s lo hi).1.l = s.l.drop k := by
  unfold takeR
  split
  · split
    · split <;> exact ⟨_, rfl⟩
    · exact ⟨_, rfl⟩
  · exact ⟨0, rfl⟩
/-- Components; a list's numbers; a node's lists. -/
def vecR : Nat → RS → List Int → RS × List Int
  | 0, s, a => (s, a)
  | k + 1, s, a => if s.e = 0 then vecR k (takeR s 0 4294967295).1 (a ++ [zagF (takeR s 0 4294967295).2]) else (s, a)
def lisR (nn : Nat) : Nat → RS → List Int → RS × List Int
  | 0, s, a => (s, a)
  | k + 1, s, a => if s.e = 0 then lisR nn k (takeR s 0 (nn - 1)).1 (a ++ [((takeR s 0 (nn - 1)).2 : Int)]) else (s, a)
def isN (xs : List Int) : IS := ⟨none, xs.length, xs.length, xs⟩
def lv1R (lk nn lv : Nat) (s : RS) : RS × List Int := lisR nn (takeR s 0 (mostE lk lv).toNat).2 (takeR s 0 (mostE lk lv).toNat).1 []
def lssR (lk nn : Nat) : Nat → Nat → RS → List IS → RS × List IS
  | 0, _, s, a => (s, a)
  | k + 1, lv, s, a => if s.e = 0 then lssR lk nn k (lv + 1) (lv1R lk nn lv s).1 (a ++ [isN (lv1R lk nn lv s).2]) else (s, a)
def ndX : ND := ⟨0, isN [], 0, 0, none, 0, 0, [], -1, -1⟩
def ndH (nx pv : Int) : ND := ⟨0, isN [], 0, 0, none, 0, 0, [], nx, pv⟩
def ndC (id tg : Nat) (v : List Int) (lv : Nat) (ls : List IS) (nx pv : Nat) : ND := ⟨id, isN v, tg, lv, none, ls.length, ls.length, ls, nx, pv⟩
/-- What is read of a node that is there. -/
def nd1R (lk nn : Nat) (s : RS) : RS × ND :=
  let i := takeR s 0 18446744073709551615
  let t := takeR i.1 0 18446744073709551615
  let d := takeR t.1 0 4096
  let v := vecR d.2 d.1 []
  let h := takeR v.1 0 7
  let m := lssR lk nn (h.2 + 1) 0 h.1 []
  let x := takeR m.1 0 (nn - 1)
  let p := takeR x.1 0 (nn - 1)
  (p.1, ndC i.2 t.2 v.2 h.2 m.2 x.2 p.2)
def nodR (lk nn : Nat) (s : RS) : RS × ND := if (takeR s 0 1).2 = 0 then ((takeR s 0 1).1, ndX) else nd1R lk nn (takeR s 0 1).1
def ndsR (lk nn : Nat) : Nat → RS → List ND → RS × List ND
  | 0, s, a => (s, a)
  | k + 1, s, a => if s.e = 0 then ndsR lk nn k (nodR lk nn s).1 (a ++ [(nodR lk nn s).2]) else (s, a)
/-- A plane that is read: its nodes, the entry, the top, the links; what is left. -/
structure PR where
  s : RS
  ns : List ND
  en : Int
  tp : Int
  lk : Nat
def pl1R (lk nn : Nat) (s : RS) : PR :=
  let e := takeR s 0 (nn - 1)
  let t := takeR e.1 0 7
  let x := takeR t.1 0 (nn - 1)
  let p := takeR x.1 0 (nn - 1)
  let m := ndsR lk nn (nn - 1) p.1 [ndH x.2 p.2]
  ⟨m.1, m.2, e.2, t.2, lk⟩
def plnR (s : RS) : PR :=
  let lk := takeR s 1 32
  let nn := takeR lk.1 1 4097
  if nn.1.e = 0 then pl1R lk.2 nn.2 nn.1 else ⟨nn.1, [], 0, 0, lk.2⟩
/-- Why a plane that was read is none. -/
def whyR (p : PR) : Int := if p.s.e = 0 then if p.s.l.length = 0 then chkW p.ns p.lk p.en p.tp else 9 else p.s.e
/-- Bytes, read: the plane (or none), and why. -/
structure IR where
  ns : List ND
  en : Int
  tp : Int
  lk : Int
  e : Int
def irE (e : Int) : IR := ⟨[], 0, 0, 0, e⟩
def irP (p : PR) : IR := if whyR p = 0 then ⟨p.ns, p.en, p.tp, p.lk, 0⟩ else irE (whyR p)
def bodyL (l : List Int) : List Int := l.take (l.length - 4)
def sealL (l : List Int) : List Int := l.drop (l.length - 4)
def readR (l : List Int) : IR :=
  if l.length < 8 then irE 8
  else if l.take 4 ≠ mkL then irE 7
  else if sumB (bodyL l) ≠ sealL l then irE 14
  else irP (plnR ⟨(bodyL l).drop 4, 0⟩)
theorem le_of_numOf (l : List Int) : (numOf l).2.1 ≤ l.length := by have := (numFrom_bd l 0 0).1; unfold numOf; omega
/-- A reader lies in blocks g and q. -/
def RrS (w : World) (g q : Nat) (links nodes : Int) (s : RS) : Prop := ∃ (far : Bool) (why : Int) (l : List Int), Blk w g 68 #[.pointer (some ⟨q, 0, none⟩), .bool far, .int .i64 links, .int .i64 nodes] ∧ RdrAt w q l why ∧ g ≠ q ∧ s.e = (if far then 6 else why) ∧ (s.e = 0 → l = s.l) ∧ Bytes l ∧ l.length ≤ 1000000
def Gq (g q : Nat) (k : Nat) : Prop := k = g ∨ k = q
section
variable {w w' : World} {g q : Nat} {links nodes : Int} {s : RS}
theorem RrS.lt (h : RrS w g q links nodes s) : g < w.heap.size ∧ q < w.heap.size := by obtain ⟨far, why, l, h1, h2, _⟩ := h; exact ⟨h1.lt, h2.lt⟩
theorem RrS.below (h : RrS w g q links nodes s) (hb : Below w.heap.size w w') : RrS w' g q links nodes s := by
  obtain ⟨far, why, l, h1, h2, h3⟩ := h
  exact ⟨far, why, l, h1.below hb h1.lt, h2.below hb h2.lt, h3⟩
theorem RrS.tch {S : Nat → Prop} (h : RrS w g q links nodes s) (hT : Tch S w w') (hg : ¬ S g) (hq : ¬ S q) : RrS w' g q links nodes s := by
  obtain ⟨far, why, l, h1, h2, h3⟩ := h
  exact ⟨far, why, l, (hT.block g h1.lt hg).trans h1, (hT.block q h2.lt hq).trans h2, h3⟩
end
theorem tch_grown {w w' : World} {g q : Nat} (h : w.grownBy w' (some q)) : Tch (Gq g q) w w' := ⟨h.os, h.tape, h.output, h.size, fun k hk hn => h.block k hk (fun e => hn (.inr (by injection e)))⟩
set_option maxRecDepth 100000 in
theorem rr_fine {w : World} {g q : Nat} {links nodes : Int} {s : RS} (h : RrS w g q links nodes s) : Calls Try.prog 48 #[.pointer (some ⟨g, 0, none⟩)] w fun e w' => e = .returned (.bool (s.e == 0)) ∧ w = w' := by
  obtain ⟨far, why, l, h1, h2, _, h4, _⟩ := h
  have c0 := h1.cell 0
  have c1 := h1.cell 1
  simp only [List.getElem?_toArray, List.getElem?_cons_zero, List.getElem?_cons_succ] at c0 c1
  have HW := Lib.hid (rdr_why q l why w h2)
  cases far with
  | true =>
    have HV : Hid ((s.e == 0) = false) := by show _ = _; rw [h4]; rfl
    clear h1 h2 h4
    go_enter Try.func48, Try.ntmps48
    go_wp2
    go_ret
    exact ⟨by rw [HV.out]; rfl, rfl⟩
  | false =>
    have HV : Hid ((s.e == 0) = (why == 0)) := by show _ = _; rw [h4]; rfl
    clear h1 h2 h4
    go_enter Try.func48, Try.ntmps48
    go_wp2_with (go_at_call 51; (with_reducible refine HW.out.mono ?_); rintro e w' ⟨rfl, rfl⟩)
    go_ret
    exact ⟨by rw [HV.out]; rfl, rfl⟩
set_option maxRecDepth 100000 in
set_option maxHeartbeats 1000000 in
theorem rr_num {w : World} {g q : Nat} {links nodes : Int} {s : RS} (h : RrS w g q links nodes s) (lo hi : Nat) :
    Calls Try.prog 47 #[.pointer (some ⟨g, 0, none⟩), .int .u64 lo, .int .u64 hi] w fun e w' => e = .returned (.int .u64 ((takeR s lo hi).2 : Nat)) ∧ RrS w' g q links nodes (takeR s lo hi).1 ∧ Tch (Gq g q) w w' := by
  have HF := Lib.hid (rr_fine h)
  by_cases he : s.e = 0
  · obtain ⟨far, why, l, h1, h2, h3, h4, h5, h6, h7⟩ := h
    rw [he] at h4
    have hf : far = false := by cases far with
      | true => simp at h4
      | false => rfl
    subst hf
    have hw0 : why = 0 := by simpa using h4.symm
    subst hw0
    have hl := h5 he
    subst hl
    have hT : Hid (takeR s lo hi = if (numOf s.l).2.2 = 0 then if (numOf s.l).1 < lo ∨ hi < (numOf s.l).1 then (⟨s.l.drop (numOf s.l).2.1, 6⟩, 0) else (⟨s.l.drop (numOf s.l).2.1, 0⟩, (numOf s.l).1) else (⟨s.l.drop (numOf s.l).2.1, ((numOf s.l).2.2 : Nat)⟩, 0)) := by show _ = _; unfold takeR; rw [if_pos he]
    have hsz := le_of_numOf s.l
    have hb2 := (numFrom_bd s.l 0 0).2
    rcases hno : numOf s.l with ⟨n, sz, wy⟩
    rw [hno] at hT hsz
    rw [show numFrom s.l 0 0 = (n, sz, wy) from hno] at hb2
    dsimp only at hT hsz hb2
    have HN := Lib.hid (rdr_num q s.l h6 (by omega) w h2 n sz wy hno)
    have c0 : w.cell? ⟨g, 0, none⟩ = some (.pointer (some ⟨q, 0, none⟩)) := h1.cell 0
    have HK := Lib.hid h1
    have HGQ := Lib.hid h3
    have HBY : Hid (Bytes (s.l.drop sz) ∧ (s.l.drop sz).length ≤ 1000000) := ⟨h6.drop sz, by rw [List.length_drop]; omega⟩
    rw [he] at HF
    clear h1 h2 h3 h4 h5 h6 hno
    by_cases hwy : wy = 0
    · subst hwy
      by_cases hr : n < lo ∨ hi < n
      · have HE : Hid (takeR s lo hi = (⟨s.l.drop sz, 6⟩, 0)) := by show _ = _; rw [hT.out, if_pos rfl, if_pos hr]
        have hrg : (n : Int) < lo ∨ (¬ (n : Int) < lo ∧ (hi : Int) < n) := by omega
        clear hT hr he
        rcases hrg with ha | ⟨hb, ha⟩
        all_goals
          go_enter Try.func47, Try.ntmps47
          go_wp2_with (first
            | (go_at_call 48; (with_reducible refine HF.out.mono ?_); rintro e w1 ⟨rfl, rfl⟩)
            | (go_at_call 69; (with_reducible refine HN.out.mono ?_); rintro e w2 ⟨rfl, hr2, hg2⟩; have HR2 := Lib.hid hr2; have HT2 : Hid (Tch (Gq g q) w w2) := tch_grown hg2; have HK2 : Hid (Blk w2 g 68 _) := HK.out.grown hg2 (fun e => HGQ.out (by injection e)); clear c0 hr2 hg2; have c0 : w2.cell? ⟨g, 0, none⟩ = some (.pointer (some ⟨q, 0, none⟩)) := HK2.out.cell 0; have c1 : w2.cell? ⟨g, 1, none⟩ = some (.bool false) := HK2.out.cell 1; have f1 := HK2.out.frozen 1)
            | (go_at_call 51; (with_reducible refine (rdr_why q _ _ _ HR2.out).mono ?_); rintro e w3 ⟨rfl, rfl⟩))
          go_ret
          refine ⟨by rw [HE.out]; rfl, ?_, HT2.out.setCell (.inl rfl) 1 _⟩
          rw [HE.out]
          exact ⟨true, 0, s.l.drop sz, HK2.out.set_ 1 (.bool true), (Below.heap_setCell _ ⟨g, 1, none⟩ _ q (fun e => HGQ.out e.symm)).trans HR2.out, HGQ.out, rfl, fun e => by simp at e, HBY.out⟩
      · have HE : Hid (takeR s lo hi = (⟨s.l.drop sz, 0⟩, n)) := by show _ = _; rw [hT.out, if_pos rfl, if_neg hr]
        have ha : ¬ (n : Int) < lo := by omega
        have hb : ¬ (hi : Int) < n := by omega
        clear hT hr he
        go_enter Try.func47, Try.ntmps47
        go_wp2_with (first
          | (go_at_call 48; (with_reducible refine HF.out.mono ?_); rintro e w1 ⟨rfl, rfl⟩)
          | (go_at_call 69; (with_reducible refine HN.out.mono ?_); rintro e w2 ⟨rfl, hr2, hg2⟩; have HR2 := Lib.hid hr2; have HT2 : Hid (Tch (Gq g q) w w2) := tch_grown hg2; have HK2 : Hid (Blk w2 g 68 _) := HK.out.grown hg2 (fun e => HGQ.out (by injection e)); clear c0 hr2 hg2; have c0 : w2.cell? ⟨g, 0, none⟩ = some (.pointer (some ⟨q, 0, none⟩)) := HK2.out.cell 0)
          | (go_at_call 51; (with_reducible refine (rdr_why q _ _ _ HR2.out).mono ?_); rintro e w3 ⟨rfl, rfl⟩))
        go_ret
        refine ⟨by rw [HE.out]; rfl, ?_, HT2.out⟩
        rw [HE.out]
        exact ⟨false, 0, s.l.drop sz, HK2.out, HR2.out, HGQ.out, rfl, fun _ => rfl, HBY.out⟩
    · have hn0 := (hb2.1 hwy).2
      subst hn0
      have HE : Hid (takeR s lo hi = (⟨s.l.drop sz, (wy : Nat)⟩, 0)) := by show _ = _; rw [hT.out, if_neg hwy]
      have hwb : ((wy : Int) == 0) = false := by simp; omega
      have HWY := Lib.hid hwy
      clear hT he
      go_enter Try.func47, Try.ntmps47
      go_wp2_with (first
        | (go_at_call 48; (with_reducible refine HF.out.mono ?_); rintro e w1 ⟨rfl, rfl⟩)
        | (go_at_call 69; (with_reducible refine HN.out.mono ?_); rintro e w2 ⟨rfl, hr2, hg2⟩; have HR2 := Lib.hid hr2; have HT2 : Hid (Tch (Gq g q) w w2) := tch_grown hg2; have HK2 : Hid (Blk w2 g 68 _) := HK.out.grown hg2 (fun e => HGQ.out (by injection e)); clear c0 hr2 hg2; have c0 : w2.cell? ⟨g, 0, none⟩ = some (.pointer (some ⟨q, 0, none⟩)) := HK2.out.cell 0)
        | (go_at_call 51; (with_reducible refine (rdr_why q _ _ _ HR2.out).mono ?_); rintro e w3 ⟨rfl, rfl⟩))
      go_ret
      refine ⟨by rw [HE.out]; rfl, ?_, HT2.out⟩
      rw [HE.out]
      exact ⟨false, wy, s.l.drop sz, HK2.out, HR2.out, HGQ.out, rfl, fun _ => rfl, HBY.out⟩
  · have HS := Lib.hid h
    have hv : (s.e == 0) = false := by simpa using he
    rw [hv] at HF
    have HE := Lib.hid (takeR_bad he lo hi)
    clear h hv he
    go_enter Try.func47, Try.ntmps47
    go_wp2_with (go_at_call 48; (with_reducible refine HF.out.mono ?_); rintro e w1 ⟨rfl, rfl⟩)
    go_ret
    exact ⟨by rw [HE.out]; rfl, by rw [HE.out]; exact HS.out, Tch.refl _ _⟩
theorem rr_numZ {w : World} {g q : Nat} {links nodes : Int} {s : RS} (h : RrS w g q links nodes s) (lo hi : Nat) {lo' hi' : Int} (h1 : lo' = lo) (h2 : hi' = hi) :
    Calls Try.prog 47 #[.pointer (some ⟨g, 0, none⟩), .int .u64 lo', .int .u64 hi'] w fun e w' => e = .returned (.int .u64 ((takeR s lo hi).2 : Nat)) ∧ RrS w' g q links nodes (takeR s lo hi).1 ∧ Tch (Gq g q) w w' := by
  subst h1; subst h2
  exact rr_num h lo hi
set_option maxRecDepth 100000 in
set_option maxHeartbeats 1000000 in
theorem rr_slot {w : World} {g q : Nat} {links : Int} {nn : Nat} {s : RS} (h : RrS w g q links nn s) (h1 : 1 ≤ nn) (h2 : nn ≤ 4097) :
    Calls Try.prog 49 #[.pointer (some ⟨g, 0, none⟩)] w fun e w' => e = .returned (.int .i64 ((takeR s 0 (nn - 1)).2 : Nat)) ∧ RrS w' g q links nn (takeR s 0 (nn - 1)).1 ∧ Tch (Gq g q) w w' := by
  have HN := Lib.hid (rr_numZ h 0 (nn - 1) (lo' := 0) rfl (hi' := ((nn - 1 : Nat) : Int)) rfl)
  have hle := takeR_le s 0 (nn - 1)
  obtain ⟨far, why, l, k1, _⟩ := h
  have c3 : w.cell? ⟨g, 3, none⟩ = some (.int .i64 nn) := k1.cell 3
  obtain ⟨m, hm⟩ : ∃ m, nn - 1 = m := ⟨_, rfl⟩
  obtain ⟨v, hv⟩ : ∃ v, (takeR s 0 (nn - 1)).2 = v := ⟨_, rfl⟩
  have hnn : (nn : Int) - 1 = (m : Int) := by omega
  rw [hv] at HN hle ⊢
  rw [hm] at HN hle ⊢
  clear k1 hv hm
  go_enter Try.func49, Try.ntmps49
  go_wp2_with (go_at_call 47; (with_reducible refine HN.out.mono ?_); rintro e w1 ⟨rfl, hr, ht⟩; have HR := Lib.hid hr; have HT := Lib.hid ht; clear hr ht)
  go_ret
  exact ⟨rfl, HR.out, HT.out⟩
theorem grownBy_tchJ {a b : World} {r : Option Nat} (h : a.grownBy b r) : Tch (fun k => some k = r) a b := ⟨h.os, h.tape, h.output, h.size, fun k hk hn => h.block k hk hn⟩
theorem grownBy_transJ {a b c : World} {r : Option Nat} (h : a.grownBy b none) (h' : b.grownBy c r) : a.grownBy c r :=
  ⟨h'.os.trans h.os, h'.tape.trans h.tape, h'.output.trans h.output, Nat.le_trans h.size h'.size, fun k hk hn => (h'.block k (Nat.lt_of_lt_of_le hk h.size) hn).trans (h.block k hk (by intro q; cases q))⟩
theorem ownsRow_tchJ {w w' : World} {base e sz n : Nat} {v : Value} {xs : List Value} {S : Nat → Prop} (h : w.ownsRow base e sz v n xs) (hT : Tch S w w') (hS : ∀ k, v.ownBlock = some k → ¬ S k) : w'.ownsRow base e sz v n xs := by
  refine ⟨h.1, ?_⟩
  rcases h.2 with h0 | ⟨g, cap, cur, rfl, hg, hh, h1, h2, h3, h4⟩
  · exact .inl h0
  · exact .inr ⟨g, cap, cur, rfl, hg, (hT.block g (Array.getElem?_eq_some_iff.1 hh).1 (hS g rfl)).trans hh, h1, h2, h3, h4⟩
set_option maxRecDepth 100000 in
/-- 'append(l, x)': an element behind a row of the call's own. -/
theorem wpList_pushJ {ops : Array Oper} {rest : List Oper} {o : Oper} {a : Act} {Q : Exit → Act → World → Prop} (hgd : o.guard = none) (s x : Operand) (T e sz bytes : Nat) (z : Value)
    (ho : o.op = .call { callee := .builtin .append, args := #[s, x], argTypes := #[T, T] })
    (hT : Try.prog.underlying T = some (.slice e)) (hinfo : (Try.prog.info? e).map (fun i => (i.zero, i.size, i.bytes)) = some (some z, sz, bytes)) (hzs : z.cells.size = sz) (hsz : 0 < sz)
    (wr : World) (base : Nat) (v : Value) (n : Nat) (xs : List Value) (cs : Array Value) (hs : a.eval s = v) (hown : wr.ownsRow base e sz v n xs)
    (hx : a.eval x = .slice (some ⟨wr.heap.size, 0, none⟩) 1 1) (hcs : cs.size = sz) (h1 : ∀ u ∈ cs.toList, u.oneCell' = true) (hn : n ≤ 1099511627776) (hby : bytes ≤ 88) (hbase : base ≤ wr.heap.size)
    (h : ∀ g c' w', w'.ownsRow base e sz (.slice (some ⟨g, 0, none⟩) (n + 1) c') (n + 1) (xs ++ cs.toList) → wr.grownBy w' v.ownBlock → Below base wr w' → (v.ownBlock = some g ∨ wr.heap.size ≤ g) → wpList Try.prog ops Q rest (a.put o.dst (.slice (some ⟨g, 0, none⟩) (n + 1) c')) w') :
    wpList Try.prog ops Q (o :: rest) a (wr.alloc (.cells cs e)) := by
  obtain ⟨i, hi, hz, hz1, hz2⟩ := info_parts hinfo
  have hb2 : (n + 1) * bytes ≤ (n + 1) * 88 := Nat.mul_le_mul_left _ hby
  refine wpList_append_lies (wr.alloc (.cells cs e)) hgd s x T ho base e i z sz bytes hT hi hz hz1 hz2 hzs hsz v n xs hs (hown.alloc _) ⟨wr.heap.size, 0, none⟩ 1 1 cs.toList hx (by simpa using hcs)
    (World.news_of_block (cs := cs) (t := e) (fr := (0, 0)) (heap_alloc_new wr _)) h1 (by omega) (by unfold maxLen; omega) (by omega) (by simp; omega) _ rfl ?_
  intro g cap w' hown' hg hat hlt
  refine h g cap w' hown' (grownBy_transJ (World.grownBy_alloc wr _ none) hg) ?_ (hat.imp_right fun q => by rw [q]; simp only [World.alloc, Array.size_push]; omega)
  exact ((Below.refl base wr).alloc hbase _).grown hg (by simp; omega) fun k hk => (hown.lt k hk).1
section
variable {P : Program} {ops : Array Oper} {Q : Exit → Act → World → Prop} {md : Region.Mode} {S : World → Prop} {fuel : Nat} {listed : Array Bool} {a : Act} {w : World} {o : Oper}
/-- In a region that draws: the one operation that may come up next appends an element. -/
theorem wpAnyH_pushJ (i : Nat) (hr : Region.ready md ops listed = [i]) (ho : ops[i]? = some o) (s x : Operand) (T e sz bytes : Nat) (z : Value)
    (hop : o.op = .call { callee := .builtin .append, args := #[s, x], argTypes := #[T, T] }) (hT : P.underlying T = some (.slice e)) (hinfo : (P.info? e).map (fun i => (i.zero, i.size, i.bytes)) = some (some z, sz, bytes)) (hzs : z.cells.size = sz) (hsz : 0 < sz)
    (wr : World) (base : Nat) (v : Value) (n : Nat) (xs : List Value) (cs : Array Value) (hw0 : w = wr.alloc (.cells cs e)) (hw : Region.wanted o (yielded ops a.tmps) = true) (hs : a.eval s = v) (hown : wr.ownsRow base e sz v n xs)
    (hx : a.eval x = .slice (some ⟨wr.heap.size, 0, none⟩) 1 1) (hcs : cs.size = sz) (h1 : ∀ u ∈ cs.toList, u.oneCell' = true) (hn : n ≤ 1099511627776) (hby : bytes ≤ 88) (hbase : base ≤ wr.heap.size)
    (h : ∀ g c' w', w'.ownsRow base e sz (.slice (some ⟨g, 0, none⟩) (n + 1) c') (n + 1) (xs ++ cs.toList) → wr.grownBy w' v.ownBlock → Below base wr w' → (v.ownBlock = some g ∨ wr.heap.size ≤ g) → S w' ∧ wpAnyH P md ops Q S fuel (listed.setIfInBounds i true) (a.put o.dst (.slice (some ⟨g, 0, none⟩) (n + 1) c')) w') :
    wpAnyH P md ops Q S (fuel + 1) listed a w := by
  subst hw0
  obtain ⟨i, hi, hz, hz1, hz2⟩ := info_parts hinfo
  have hb2 : (n + 1) * bytes ≤ (n + 1) * 88 := Nat.mul_le_mul_left _ hby
  refine wpAnyH_ready hr (by simp) (AllReadyH.cons ho (fun K hK => ?_) AllReadyH.nil)
  rw [if_pos hw]
  refine wp_append_lies (wr.alloc (.cells cs e)) s x T hop base e i z sz bytes hT hi hz hz1 hz2 hzs hsz v n xs hs (hown.alloc _) ⟨wr.heap.size, 0, none⟩ 1 1 cs.toList hx (by simpa using hcs)
    (World.news_of_block (cs := cs) (t := e) (fr := (0, 0)) (heap_alloc_new wr _)) h1 (by omega) (by unfold maxLen; omega) (by omega) (by simp; omega) _ rfl fun g cap w' h2 h3 h4 h5 => ?_
  obtain ⟨q1, q2⟩ := h g cap w' h2 (grownBy_transJ (World.grownBy_alloc wr _ none) h3) (((Below.refl base wr).alloc hbase _).grown h3 (by simp; omega) fun k hk => (hown.lt k hk).1) (h4.imp_right fun q => by rw [q]; simp only [World.alloc, Array.size_push]; omega)
  exact hK.out _ _ q1 (fun _ => q2)
end
/-- A node, its rows in blocks of S. -/
def AtN (w : World) (S : Nat → Prop) (d : ND) : Prop := NdS w S d ∧ RdS w S d.LA d.ln (d.ls.map IS.v) ∧ (Lit.int .u64 d.tags).wf = true
theorem AtN.tch {w w' : World} {S W : Nat → Prop} {d : ND} (h : AtN w S d) (hT : Tch W w w') (hS : ∀ b, S b → b < w.heap.size ∧ ¬ W b) : AtN w' S d := ⟨h.1.tch hT hS, h.2.1.tch hT hS, h.2.2⟩
theorem AtN.mono {w : World} {S S' : Nat → Prop} {d : ND} (h : AtN w S d) (hS : ∀ b, S b → S' b) : AtN w S' d := ⟨h.1.mono hS, h.2.1.mono hS, h.2.2⟩
theorem AtN.at_ {w : World} {S : Nat → Prop} {d : ND} {B : Nat} (h : AtN w S d) (hS : ∀ b, S b → b < B) : d.At w B :=
  ⟨h.1.1.at_ hS, h.1.2.1, h.1.2.2.1, rs_of_rd h.2.1 hS, fun l hl => (h.1.2.2.2.2.1 l hl).at_ hS, h.1.2.2.2.2.2⟩
/-- A row of the call's own, as what is read. -/
theorem own_rd {w : World} {B e n c : Nat} {A : Option Addr} {xs : List Value} (ho : w.ownsRow B e 1 (.slice A n c) n xs) :
    (A = none → n = 0 ∧ c = 0) ∧ n ≤ c ∧ RdS w (fun k => B ≤ k ∧ k < w.heap.size ∧ (Value.slice A n c).ownBlock = some k) A n xs := by
  refine ⟨fun e => ?_, ?_, by simpa using ho.1, fun h0 => ?_⟩
  · rcases ho.2 with ⟨q, q0⟩ | ⟨x, cap, cur, q, _⟩
    · injection q with _ q2 q3; exact ⟨q2, q3⟩
    · injection q with q1 _ _; exact absurd (e.symm.trans q1) (by simp)
  · rcases ho.2 with ⟨q, q0⟩ | ⟨x, cap, cur, q, _, _, h1, _⟩
    · injection q with _ q2 q3; omega
    · injection q with _ _ q3; subst q3; exact h1
  · obtain ⟨x, e, hx, _, _, hr⟩ := Rw.of_own ho h0
    subst e
    exact ⟨x, 0, rfl, ⟨hx, hr.lt, rfl⟩, fun q u hu => by rw [Nat.zero_add]; exact hr.cell hu⟩
def nzL : Array Value := #[.int .u64 0, .slice none 0 0, .int .u64 0, .int .i64 0, .slice none 0 0, .int .i64 0, .int .i64 0]
/-- A node whose vector is read. -/
structure NrV (w : World) (N g q : Nat) (lk nn id tg : Int) (s : RS) (xs : List Int) (wr : World) (A : Option Addr) (n c : Nat) : Prop where
  rr : RrS wr g q lk nn s
  tch : Tch (Gq g q) w wr
  res : Blk wr w.heap.size 42 nzL
  nd : Blk wr (N) 42 #[.int .u64 id, .slice A n c, .int .u64 tg, .int .i64 0, .slice none 0 0, .int .i64 0, .int .i64 0]
  own : wr.ownsRow (N + 1) 21 1 (.slice A n c) n (xs.map (.int .i32))
  len : xs.length = n
  wf : ∀ x ∈ xs, (Lit.int .i32 x).wf = true
  lt : g < w.heap.size ∧ q < w.heap.size
  ln : w.heap.size < N
section
variable {w wr w' W5 : World} {N g q : Nat} {lk nn id tg lv : Int} {s s' : RS} {xs : List Int} {A : Option Addr} {n c b c' : Nat} {ls : List IS} {vec : IS} {B3 : Nat}
theorem gq_lt {w : World} {g q : Nat} (hl : g < w.heap.size ∧ q < w.heap.size) {k : Nat} (hk : w.heap.size ≤ k) : ¬ Gq g q k := by rintro (rfl | rfl) <;> omega
theorem NrV.sz (H : NrV w N g q lk nn id tg s xs wr A n c) : N + 1 ≤ wr.heap.size := H.nd.lt
theorem NrV.num (H : NrV w N g q lk nn id tg s xs wr A n c) (hr : RrS w' g q lk nn s') (ht : Tch (Gq g q) wr w') : NrV w N g q lk nn id tg s' xs w' A n c :=
  ⟨hr, H.tch.trans ht fun _ h => .inl h, H.res.tch ht (gq_lt H.lt (Nat.le_refl _)), H.nd.tch ht (gq_lt H.lt (by have := H.ln; omega)), ownsRow_tchJ H.own ht fun k hk => gq_lt H.lt (by have := (H.own.lt k hk).1; have := H.ln; omega), H.len, H.wf, H.lt, H.ln⟩
theorem NrV.drew (H : NrV w N g q lk nn id tg s xs wr A n c) : NrV w N g q lk nn id tg s xs wr.drew A n c :=
  H.num (H.rr.below (below_drewN (Below.refl _ wr) 1)) (Tch.of_below (below_drewN (Below.refl _ wr) 1))
theorem NrV.push (H : NrV w N g q lk nn id tg s xs wr A n c) {x : Int} (hx : (Lit.int .i32 x).wf = true) (hgr : wr.grownBy W5 (Value.slice A n c).ownBlock) (hat : (Value.slice A n c).ownBlock = some b ∨ wr.heap.size ≤ b)
    (ho : W5.ownsRow (N + 1) 21 1 (.slice (some ⟨b, 0, none⟩) (n + 1) c') (n + 1) (xs.map (.int .i32) ++ #[.int .i32 x].toList)) :
    NrV w N g q lk nn id tg s (xs ++ [x]) (W5.setCell ⟨N, 1, none⟩ (.slice (some ⟨b, 0, none⟩) (n + 1) c')) (some ⟨b, 0, none⟩) (n + 1) c' := by
  have hb : N + 1 ≤ b := by
    rcases hat with h | h
    · exact (H.own.lt b h).1
    · have := H.sz; omega
  have ht := grownBy_tchJ hgr
  have hln := H.ln
  have hk : ∀ k, some k = (Value.slice A n c).ownBlock → N + 1 ≤ k := fun k h => (H.own.lt k h.symm).1
  have t2 : Tch (fun k => N ≤ k) wr (W5.setCell ⟨N, 1, none⟩ (.slice (some ⟨b, 0, none⟩) (n + 1) c')) := (ht.mono fun k _ h => by have := hk k h; omega).setCell (Nat.le_refl _) _ _
  have t3 : Tch (fun k => k = N) W5 (W5.setCell ⟨N, 1, none⟩ (.slice (some ⟨b, 0, none⟩) (n + 1) c')) := Tch.setCell (S := fun k => k = N) (Tch.refl _ _) rfl _ _
  have hn5 := H.nd.tch ht fun h => by have := hk _ h; omega
  have e := hn5.set_ 1 (.slice (some ⟨b, 0, none⟩) (n + 1) c')
  refine ⟨H.rr.tch t2 (by have := H.lt; have := H.ln; omega) (by have := H.lt; have := H.ln; omega), H.tch.trans t2 fun k h => .inr (by omega), H.res.tch t2 (by omega), ?_, ?_, by rw [List.length_append, H.len]; rfl, ?_, H.lt, H.ln⟩
  · simpa using e
  · rw [List.map_append]
    exact ownsRow_tchJ ho t3 fun k h => by
      have : b = k := by injection h
      omega
  · intro z hz
    rcases List.mem_append.1 hz with h | h
    · exact H.wf z h
    · rw [List.mem_singleton.1 h]; exact hx
/-- A node whose lists are read. -/
structure NrL (w : World) (N g q : Nat) (lk nn id tg lv : Int) (vec : IS) (B3 : Nat) (s : RS) (ls : List IS) (wr : World) (A : Option Addr) (n c : Nat) : Prop where
  rr : RrS wr g q lk nn s
  tch : Tch (Gq g q) w wr
  res : Blk wr w.heap.size 42 nzL
  nd : Blk wr (N) 42 #[.int .u64 id, vec.v, .int .u64 tg, .int .i64 lv, .slice A n c, .int .i64 0, .int .i64 0]
  vec : vec.AtS wr (fun k => N + 1 ≤ k ∧ k < B3) .i32
  b3 : N + 1 ≤ B3 ∧ B3 ≤ wr.heap.size
  own : wr.ownsRow B3 43 1 (.slice A n c) n (ls.map IS.v)
  len : ls.length = n
  lss : ∀ l ∈ ls, l.AtS wr (fun k => B3 ≤ k ∧ k < wr.heap.size ∧ (Value.slice A n c).ownBlock ≠ some k) .i64 ∧ l.n ≤ l.c
  lt : g < w.heap.size ∧ q < w.heap.size
  ln : w.heap.size < N
theorem NrL.num (H : NrL w N g q lk nn id tg lv vec B3 s ls wr A n c) (hr : RrS w' g q lk nn s') (ht : Tch (Gq g q) wr w') : NrL w N g q lk nn id tg lv vec B3 s' ls w' A n c :=
  ⟨hr, H.tch.trans ht fun _ h => .inl h, H.res.tch ht (gq_lt H.lt (Nat.le_refl _)), H.nd.tch ht (gq_lt H.lt (by have := H.ln; omega)),
    H.vec.tch ht fun k hk => ⟨by have := H.b3; omega, gq_lt H.lt (by have := H.ln; omega)⟩, ⟨H.b3.1, by have := H.b3; have := ht.size; omega⟩, ownsRow_tchJ H.own ht fun k hk => gq_lt H.lt (by have := (H.own.lt k hk).1; have := H.b3; have := H.ln; omega), H.len,
    fun l hl => ⟨((H.lss l hl).1.tch ht fun k hk => ⟨hk.2.1, gq_lt H.lt (by have := H.b3; have := H.ln; omega)⟩).mono fun k hk => ⟨hk.1, by have := ht.size; omega, hk.2.2⟩, (H.lss l hl).2⟩, H.lt, H.ln⟩
theorem NrL.start (H : NrV w N g q lk nn id tg s xs wr A n c) (hn : n ≤ 1048576) (lv : Int) : NrL w N g q lk nn id tg lv ⟨A, n, c, xs⟩ wr.heap.size s [] (wr.setCell ⟨N, 3, none⟩ (.int .i64 lv)) none 0 0 := by
  obtain ⟨r1, r2, r3⟩ := own_rd H.own
  have hs := H.sz
  have hln := H.ln
  have hl := H.lt
  have t3 : Tch (fun k => k = N) wr (wr.setCell ⟨N, 3, none⟩ (.int .i64 lv)) := Tch.setCell (S := fun k => k = N) (Tch.refl _ _) rfl _ _
  have e := H.nd.set_ 3 (.int .i64 lv)
  refine ⟨H.rr.tch t3 (by omega) (by omega), H.tch.trans t3 fun k h => .inr (by omega), H.res.tch t3 (by omega), ?_, ?_, ⟨hs, t3.size⟩, World.ownsRow_nil _ _ _ _, rfl, fun l hl => (by cases hl), H.lt, H.ln⟩
  · simpa [IS.v] using e
  · refine IS.AtS.tch ⟨r1, hn, ?_, H.wf⟩ t3 fun k hk => ⟨hk.2, by omega⟩
    exact r3.mono fun k hk => ⟨hk.1, hk.2.1⟩
theorem NrL.push (H : NrL w N g q lk nn id tg lv vec B3 s ls wr A n c) {A' : Option Addr} {m d B4 : Nat} (hB4 : ∀ k, (Value.slice A n c).ownBlock = some k → k < B4) (hB3 : B3 ≤ B4)
    (hl : wr.ownsRow B4 3 1 (.slice A' m d) m (xs.map (.int .i64))) (hm : m ≤ 1048576) (hw : ∀ x ∈ xs, (Lit.int .i64 x).wf = true)
    (hgr : wr.grownBy W5 (Value.slice A n c).ownBlock) (hat : (Value.slice A n c).ownBlock = some b ∨ wr.heap.size ≤ b)
    (ho : W5.ownsRow B3 43 1 (.slice (some ⟨b, 0, none⟩) (n + 1) c') (n + 1) (ls.map IS.v ++ #[.slice A' m d].toList)) :
    NrL w N g q lk nn id tg lv vec B3 s (ls ++ [⟨A', m, d, xs⟩]) (W5.setCell ⟨N, 4, none⟩ (.slice (some ⟨b, 0, none⟩) (n + 1) c')) (some ⟨b, 0, none⟩) (n + 1) c' := by
  obtain ⟨r1, r2, r3⟩ := own_rd hl
  have hb3 := H.b3
  have hlt := H.lt
  have hb : B3 ≤ b := by
    rcases hat with h | h
    · exact (H.own.lt b h).1
    · omega
  have ht := grownBy_tchJ hgr
  have hln := H.ln
  have hk : ∀ k, some k = (Value.slice A n c).ownBlock → B3 ≤ k := fun k h => (H.own.lt k h.symm).1
  obtain ⟨V, hV⟩ : ∃ V, W5.setCell ⟨N, 4, none⟩ (.slice (some ⟨b, 0, none⟩) (n + 1) c') = V := ⟨_, rfl⟩
  have t2 : Tch (fun k => k = N ∨ some k = (Value.slice A n c).ownBlock) wr V := by rw [← hV]; exact (ht.mono fun k _ h => .inr h).setCell (.inl rfl) _ _
  have t3 : Tch (fun k => k = N) W5 V := by rw [← hV]; exact Tch.setCell (S := fun k => k = N) (Tch.refl _ _) rfl _ _
  have hn5 := H.nd.tch ht fun h => by have := hk _ h; omega
  have e := hn5.set_ 4 (.slice (some ⟨b, 0, none⟩) (n + 1) c')
  have hno : ∀ k, k < B3 → k ≠ N → ¬ (k = N ∨ some k = (Value.slice A n c).ownBlock) := fun k h1 h2 h => by
    rcases h with h | h
    · exact h2 h
    · have := hk k h; omega
  have hbk : ∀ k, k < wr.heap.size → (Value.slice A n c).ownBlock ≠ some k → b ≠ k := fun k h1 h2 h => by
    subst h
    rcases hat with h | h
    · exact h2 h
    · omega
  rw [hV] at e ⊢
  refine ⟨H.rr.tch t2 (hno _ (by omega) (by omega)) (hno _ (by omega) (by omega)), H.tch.trans t2 fun k h => .inr ?_, H.res.tch t2 (hno _ (by omega) (by omega)), ?_, H.vec.tch t2 fun k h => ⟨by omega, hno _ (by omega) (by omega)⟩, ⟨hb3.1, by have := t2.size; omega⟩, ?_, by rw [List.length_append, H.len]; rfl, ?_, H.lt, H.ln⟩
  · rcases h with h | h
    · omega
    · have := hk k h; omega
  · simpa using e
  · rw [List.map_append]
    exact ownsRow_tchJ ho t3 fun k h => by
      have : b = k := by injection h
      omega
  · intro l hml
    rcases List.mem_append.1 hml with h | h
    · refine ⟨((H.lss l h).1.tch t2 fun k hk => ⟨hk.2.1, ?_⟩).mono fun k hk => ⟨hk.1, by have := t2.size; omega, fun e => hbk k hk.2.1 hk.2.2 (by injection e)⟩, (H.lss l h).2⟩
      rintro (h1 | h1)
      · omega
      · exact hk.2.2 h1.symm
    · obtain rfl := List.mem_singleton.1 h
      have hq : ∀ k, B4 ≤ k → (Value.slice A n c).ownBlock ≠ some k := fun k hk e => by have := hB4 k e; omega
      refine ⟨IS.AtS.mono (IS.AtS.tch (S := fun k => B4 ≤ k ∧ k < wr.heap.size) ⟨r1, hm, r3.mono fun k hk => ⟨hk.1, hk.2.1⟩, hw⟩ t2 fun k hk => ⟨hk.2, ?_⟩) fun k hk => ⟨by omega, by have := t2.size; omega, fun e => hbk k hk.2 (hq k hk.1) (by injection e)⟩, r2⟩
      rintro (h1 | h1)
      · omega
      · exact hq k hk.1 h1.symm
/-- The node is stored as the result. -/
theorem NrL.fin (H : NrL w N g q lk nn id tg lv vec B3 s ls wr A n c) (hn : n ≤ 1048576) (nx pv : Int) (hid : (Lit.int .u64 id).wf = true) (htg : (Lit.int .u64 tg).wf = true) (hlv : (Lit.int .i64 lv).wf = true) (hnx : (Lit.int .i64 nx).wf = true) (hpv : (Lit.int .i64 pv).wf = true)
    {V : World} (hV : (wr.setCell ⟨N, 5, none⟩ (.int .i64 nx)).setCell ⟨N, 6, none⟩ (.int .i64 pv) = V) {V2 : World} (hV2 : V.setCells w.heap.size 0 (ND.cells ⟨id, vec, tg, lv, A, n, c, ls, nx, pv⟩).toList = V2) :
    Blk V (N) 42 (ND.cells ⟨id, vec, tg, lv, A, n, c, ls, nx, pv⟩) ∧ Blk V w.heap.size 42 nzL ∧ Blk V2 w.heap.size 42 (ND.cells ⟨id, vec, tg, lv, A, n, c, ls, nx, pv⟩) ∧
      RrS V2 g q lk nn s ∧ Tch (Gq g q) w V2 ∧ AtN V2 (fun k => w.heap.size ≤ k ∧ k < V2.heap.size) ⟨id, vec, tg, lv, A, n, c, ls, nx, pv⟩ := by
  have hb3 := H.b3
  have hln := H.ln
  have hlt := H.lt
  have t1 : Tch (fun k => k = N) wr V := by rw [← hV]; exact Tch.setCell (S := fun k => k = N) (Tch.setCell (S := fun k => k = N) (Tch.refl _ _) rfl _ _) rfl _ _
  have t2 : Tch (fun k => k = w.heap.size) V V2 := by rw [← hV2]; exact Tch.setCells (S := fun k => k = w.heap.size) rfl _ _ _ (Tch.refl _ _)
  have t3 : Tch (fun k => k = N ∨ k = w.heap.size) wr V2 := (t1.mono fun _ _ h => .inl h).trans t2 fun _ h => .inl (.inr h)
  have e := (H.nd.set_ 5 (.int .i64 nx)).set_ 6 (.int .i64 pv)
  rw [hV] at e
  have k1 : Blk V (N) 42 (ND.cells ⟨id, vec, tg, lv, A, n, c, ls, nx, pv⟩) := by simpa [ND.cells] using e
  have k2 := H.res.tch t1 (by omega)
  obtain ⟨r1, r2, r3⟩ := own_rd H.own
  have hs := t3.size
  refine ⟨k1, k2, by rw [← hV2]; exact k2.put _ rfl, H.rr.tch t3 (by omega) (by omega), H.tch.trans t3 fun k h => .inr (by omega), ⟨⟨?_, r1, hn, H.len, ?_, hid, hlv, hnx, hpv, fun l hl => (H.lss l hl).2⟩, ?_, htg⟩⟩
  · exact (H.vec.tch t3 fun k hk => ⟨by omega, by omega⟩).mono fun k hk => ⟨by omega, by omega⟩
  · exact fun l hl => ((H.lss l hl).1.tch t3 fun k hk => ⟨hk.2.1, by omega⟩).mono fun k hk => ⟨by omega, by omega⟩
  · exact (r3.tch t3 fun k hk => ⟨hk.2.1, by omega⟩).mono fun k hk => ⟨by omega, by omega⟩
end
theorem rr_take {w : World} {g q : Nat} {links nodes : Int} {s s' : RS} {v : Nat} (h : RrS w g q links nodes s) (lo hi : Nat) (he : takeR s lo hi = (s', v)) {lo' hi' : Int} (h1 : lo' = lo) (h2 : hi' = hi) :
    Calls Try.prog 47 #[.pointer (some ⟨g, 0, none⟩), .int .u64 lo', .int .u64 hi'] w fun e w' => e = .returned (.int .u64 (v : Nat)) ∧ RrS w' g q links nodes s' ∧ Tch (Gq g q) w w' := by
  have := rr_numZ h lo hi h1 h2
  rw [he] at this
  exact this
theorem rr_slotE {w : World} {g q : Nat} {links : Int} {nn : Nat} {s s' : RS} {v : Nat} (h : RrS w g q links nn s) (h1 : 1 ≤ nn) (h2 : nn ≤ 4097) (he : takeR s 0 (nn - 1) = (s', v)) :
    Calls Try.prog 49 #[.pointer (some ⟨g, 0, none⟩)] w fun e w' => e = .returned (.int .i64 (v : Nat)) ∧ RrS w' g q links nn s' ∧ Tch (Gq g q) w w' := by
  have := rr_slot h h1 h2
  rw [he] at this
  exact this
theorem take_le {s s' : RS} {lo hi v : Nat} (he : takeR s lo hi = (s', v)) : v ≤ hi := by have := takeR_le s lo hi; rw [he] at this; exact this
theorem vecR_stop {k : Nat} {s s5 : RS} {a v : List Int} (h : vecR k s a = (s5, v)) (hk : k = 0 ∨ s.e ≠ 0) : s = s5 ∧ a = v := by
  cases k with
  | zero => injection h with h1 h2; exact ⟨h1, h2⟩
  | succ k =>
    rw [vecR, if_neg (by omega)] at h
    injection h with h1 h2
    exact ⟨h1, h2⟩
theorem lisR_stop {nn k : Nat} {s s5 : RS} {a v : List Int} (h : lisR nn k s a = (s5, v)) (hk : k = 0 ∨ s.e ≠ 0) : s = s5 ∧ a = v := by
  cases k with
  | zero => injection h with h1 h2; exact ⟨h1, h2⟩
  | succ k =>
    rw [lisR, if_neg (by omega)] at h
    injection h with h1 h2
    exact ⟨h1, h2⟩
theorem lssR_stop {lk nn k lv : Nat} {s s5 : RS} {a v : List IS} (h : lssR lk nn k lv s a = (s5, v)) (hk : k = 0 ∨ s.e ≠ 0) : s = s5 ∧ a = v := by
  cases k with
  | zero => injection h with h1 h2; exact ⟨h1, h2⟩
  | succ k =>
    rw [lssR, if_neg (by omega)] at h
    injection h with h1 h2
    exact ⟨h1, h2⟩
theorem zagF_bd {m : Nat} (h : m ≤ 4294967295) : -2147483648 ≤ zagF m ∧ zagF m ≤ 2147483647 := by unfold zagF; split <;> omega
/-- A node that was read. -/
def RetN (g q : Nat) (lk nn : Int) (r : RS × ND) (w : World) (e : Ending) (w' : World) : Prop :=
  ∃ d, e = .returned (.agg d.cells) ∧ RrS w' g q lk nn r.1 ∧ Tch (Gq g q) w w' ∧ AtN w' (fun k => w.heap.size ≤ k ∧ k < w'.heap.size) d ∧ d.norm = r.2
theorem nodeTK : (Try.prog.info? 42).map (·.size) = some 7 := by kernel_rfl
theorem node_loadK {w : World} {b : Nat} {d : ND} (h : Blk w b 42 d.cells) : (Instr.loadAt 42 (.pointer (some ⟨b, 0, none⟩))).run Try.prog w = .ok (.agg d.cells) w := row_load h Try.underlying42 rfl nodeTK
theorem nz_cells (d : ND) : (d.cells.all fun x => x.oneCell') = true := by simp [ND.cells, IS.v, Value.oneCell']
theorem norm_isN (A : Option Addr) (n c : Nat) (xs : List Int) (h : xs.length = n) : (⟨A, n, c, xs⟩ : IS).norm = isN xs := by subst h; rfl
theorem NrV.begin {w w5 : World} {N g q : Nat} {lk nn id tg : Int} {s : RS} (hr : RrS w5 g q lk nn s) (ht : Tch (Gq g q) w w5) (hk : Blk w5 w.heap.size 42 nzL) (hn : Blk w5 N 42 nzL) (hl : g < w.heap.size ∧ q < w.heap.size) (hN : w.heap.size < N) :
    NrV w N g q lk nn id tg s [] ((w5.setCell ⟨N, 0, none⟩ (.int .u64 id)).setCell ⟨N, 2, none⟩ (.int .u64 tg)) none 0 0 := by
  have t1 : Tch (fun k => k = N) w5 ((w5.setCell ⟨N, 0, none⟩ (.int .u64 id)).setCell ⟨N, 2, none⟩ (.int .u64 tg)) := Tch.setCell (S := fun k => k = N) (Tch.setCell (S := fun k => k = N) (Tch.refl _ _) rfl _ _) rfl _ _
  have e := (hn.set_ 0 (.int .u64 id)).set_ 2 (.int .u64 tg)
  exact ⟨hr.tch t1 (by omega) (by omega), ht.trans t1 fun k h => .inr (by omega), hk.tch t1 (by omega), by simpa [nzL] using e, World.ownsRow_nil _ _ _ _, rfl, fun x hx => (by cases hx), hl, hN⟩
/-- A list of slots that is read. -/
structure NrI (w : World) (g q : Nat) (lk nn : Int) (s : RS) (xs : List Int) (wr : World) (A : Option Addr) (n c : Nat) : Prop where
  rr : RrS wr g q lk nn s
  tch : Tch (Gq g q) w wr
  own : wr.ownsRow w.heap.size 3 1 (.slice A n c) n (xs.map (.int .i64))
  len : xs.length = n
  wf : ∀ x ∈ xs, (Lit.int .i64 x).wf = true
  lt : g < w.heap.size ∧ q < w.heap.size
section
variable {w wr w' W5 : World} {g q : Nat} {lk nn : Int} {s s' : RS} {xs : List Int} {A : Option Addr} {n c b c' : Nat}
theorem NrI.num (H : NrI w g q lk nn s xs wr A n c) (hr : RrS w' g q lk nn s') (ht : Tch (Gq g q) wr w') : NrI w g q lk nn s' xs w' A n c :=
  ⟨hr, H.tch.trans ht fun _ h => .inl h, ownsRow_tchJ H.own ht fun k hk => gq_lt H.lt (H.own.lt k hk).1, H.len, H.wf, H.lt⟩
theorem NrI.push (H : NrI w g q lk nn s xs wr A n c) {x : Int} (hx : (Lit.int .i64 x).wf = true) (hgr : wr.grownBy W5 (Value.slice A n c).ownBlock)
    (ho : W5.ownsRow w.heap.size 3 1 (.slice (some ⟨b, 0, none⟩) (n + 1) c') (n + 1) (xs.map (.int .i64) ++ #[.int .i64 x].toList)) : NrI w g q lk nn s (xs ++ [x]) W5 (some ⟨b, 0, none⟩) (n + 1) c' := by
  have ht := grownBy_tchJ hgr
  have hk : ∀ k, some k = (Value.slice A n c).ownBlock → w.heap.size ≤ k := fun k h => (H.own.lt k h.symm).1
  refine ⟨H.rr.tch ht (fun h => by have := hk _ h; have := H.lt; omega) (fun h => by have := hk _ h; have := H.lt; omega), H.tch.trans ht fun k h => .inr (hk k h), by rw [List.map_append]; exact ho, by rw [List.length_append, H.len]; rfl, ?_, H.lt⟩
  intro z hz
  rcases List.mem_append.1 hz with h | h
  · exact H.wf z h
  · rw [List.mem_singleton.1 h]; exact hx
end
theorem RrS.links {w : World} {g q : Nat} {lk nn : Int} {s : RS} (h : RrS w g q lk nn s) : w.cell? ⟨g, 2, none⟩ = some (.int .i64 lk) := by
  obtain ⟨far, why, l, h1, _⟩ := h
  exact h1.cell 2
theorem wf_i64K {z : Nat} (h : z ≤ 9223372036854775807) : (Lit.int .i64 (z : Nat)).wf = true := by
  unfold Lit.wf
  rw [Bool.and_eq_true]
  refine ⟨decide_eq_true ?_, decide_eq_true ?_⟩
  · show (-9223372036854775808 : Int) ≤ _; omega
  · show _ ≤ (9223372036854775807 : Int); omega
theorem wf_u64K {z : Nat} (h : z ≤ 18446744073709551615) : (Lit.int .u64 (z : Nat)).wf = true := by
  unfold Lit.wf
  rw [Bool.and_eq_true]
  refine ⟨decide_eq_true ?_, decide_eq_true ?_⟩
  · show (0 : Int) ≤ _; omega
  · show _ ≤ (18446744073709551615 : Int); omega
theorem info_intK : (Try.prog.info? 3).map (fun i => (i.zero, i.size, i.bytes)) = some (some (.int .i64 0), 1, 8) := by kernel_rfl
theorem wf_i32K {z : Int} (h : -2147483648 ≤ z ∧ z ≤ 2147483647) : (Lit.int .i32 z).wf = true := by
  unfold Lit.wf
  rw [Bool.and_eq_true]
  exact ⟨decide_eq_true h.1, decide_eq_true h.2⟩
theorem yieldsIf_conv64 {ops : Array Oper} {S : World → Prop} {o : Oper} {a : Act} {z : Int} (hz : -2147483648 ≤ z ∧ z ≤ 2147483647) (hw : Region.wanted o (yielded ops a.tmps) = true) (x : Operand) (ho : o.op = .convert 2 21 x) (hx : a.eval x = .int .i64 z) : YieldsIf Try.prog ops S o (.int .i32 z) a := by
  refine .inl ⟨hw, fun w _ => ?_⟩
  have e : IntKind.i32.wrap z = z := by rw [IntKind.wrap_i32]; omega
  unfold execOp
  simp only [ho, hx]
  simp [go_sem, Try.underlying2, Try.underlying21, e]
theorem pack_zagE (m : Nat) (hm : m ≤ 4294967295) (w : World) : Calls Try.prog 70 #[.int .u64 (m : Nat)] w fun e w' => e = .returned (.int .i64 (zagF m)) ∧ w = w' := pack_zag m (by omega) w
set_option maxRecDepth 100000 in
set_option maxHeartbeats 8000000 in
theorem rr_node {w : World} {g q lk nn : Nat} {s : RS} (h : RrS w g q lk nn s) (hlk : lk ≤ 32) (h1 : 1 ≤ nn) (h2 : nn ≤ 4097) :
    Calls Try.prog 50 #[.pointer (some ⟨g, 0, none⟩)] w (RetN g q lk nn (nodR lk nn s) w) := by
  obtain ⟨w1, hw1⟩ : ∃ x, w.alloc (.cells #[.int .u64 0, .slice none 0 0, .int .u64 0, .int .i64 0, .slice none 0 0, .int .i64 0, .int .i64 0] 42) = x := ⟨_, rfl⟩
  have hb1 : Below w.heap.size w w1 := by rw [← hw1]; exact (Below.refl _ w).alloc (Nat.le_refl _) _
  have k1 : Blk w1 w.heap.size 42 nzL := by rw [← hw1]; exact Blk.new _ _ _
  have hlt := h.lt
  have hr1 := h.below hb1
  obtain ⟨s1, c1, e1⟩ : ∃ a b, takeR s 0 1 = (a, b) := ⟨_, _, rfl⟩
  have HR1 := Lib.hid hr1
  have HT1 : Hid (Tch (Gq g q) w w1) := Tch.of_below hb1
  have HK1 := Lib.hid k1
  have HLT := Lib.hid hlt
  have E1 := Lib.hid e1
  clear hb1 k1 hlt hr1 h
  by_cases hc : c1 = 0
  · subst hc
    have HN : Hid (nodR lk nn s = (s1, ndX)) := by show _ = _; unfold nodR; rw [E1.out, if_pos rfl]
    rw [HN.out]
    clear e1
    go_enter Try.func50, Try.ntmps50
    go_upto_region 1 with fail
    (try rw [hw1])
    clear hw1
    go_upto_region 2 with (go_at_call 47; (with_reducible refine (rr_take HR1.out 0 1 E1.out (lo' := 0) rfl (hi' := 1) rfl).mono ?_); rintro e w2 ⟨rfl, h2r, h2t⟩; have HR2 := Lib.hid h2r; have HT2 := Lib.hid h2t; clear h2r h2t)
    have HK2 : Hid (Blk w2 w.heap.size 42 nzL) := HK1.out.tch HT2.out (gq_lt HLT.out (Nat.le_refl _))
    have SR := row_store HK2.out ndX.cells rfl nodeTK (nz_cells _)
    obtain ⟨w3, hw3⟩ : ∃ x, w2.setCells w.heap.size 0 ndX.cells.toList = x := ⟨_, rfl⟩
    have HK3 : Hid (Blk w3 w.heap.size 42 ndX.cells) := by show Blk _ _ _ _; rw [← hw3]; exact HK2.out.put _ rfl
    have HT3 : Hid (Tch (fun k => k = w.heap.size) w2 w3) := by show Tch _ _ _; rw [← hw3]; exact Tch.setCells (S := fun k => k = w.heap.size) rfl _ _ _ (Tch.refl _ _)
    rw [hw3] at SR
    clear hw3
    unfold ndX ND.cells isN IS.v at SR
    go_wp2_with (refine wpList_storeE SR _ _ rfl rfl rfl rfl ?_)
    refine bodyPost_ret (v := .agg ndX.cells) ?_ rfl ⟨ndX, rfl, HR2.out.tch HT3.out (by have := HLT.out; omega) (by have := HLT.out; omega), (HT1.out.trans HT2.out fun k h => .inl h).trans HT3.out fun k h => .inr (by omega), ⟨⟨⟨fun _ => ⟨rfl, rfl⟩, Nat.zero_le _, ⟨rfl, fun h => absurd h (by decide)⟩, (fun x hx => by cases hx)⟩, fun _ => ⟨rfl, rfl⟩, Nat.zero_le _, rfl, (fun l hl => by cases hl), rfl, rfl, rfl, rfl, (fun l hl => by cases hl)⟩, ⟨rfl, fun h => absurd h (by decide)⟩, rfl⟩, rfl⟩
    exact results_cell_row Try.results50 _ _ w.heap.size 42 _ (0, 0) _ rfl HK3.out Try.underlying42 rfl nodeTK
  obtain ⟨s2, id, e2⟩ : ∃ a b, takeR s1 0 18446744073709551615 = (a, b) := ⟨_, _, rfl⟩
  obtain ⟨s3, tg, e3⟩ : ∃ a b, takeR s2 0 18446744073709551615 = (a, b) := ⟨_, _, rfl⟩
  obtain ⟨s4, dm, e4⟩ : ∃ a b, takeR s3 0 4096 = (a, b) := ⟨_, _, rfl⟩
  obtain ⟨s5, vx, e5⟩ : ∃ a b, vecR dm s4 [] = (a, b) := ⟨_, _, rfl⟩
  obtain ⟨s6, hl, e6⟩ : ∃ a b, takeR s5 0 7 = (a, b) := ⟨_, _, rfl⟩
  obtain ⟨s7, lx, e7⟩ : ∃ a b, lssR lk nn (hl + 1) 0 s6 [] = (a, b) := ⟨_, _, rfl⟩
  obtain ⟨s8, nx, e8⟩ : ∃ a b, takeR s7 0 (nn - 1) = (a, b) := ⟨_, _, rfl⟩
  obtain ⟨s9, pv, e9⟩ : ∃ a b, takeR s8 0 (nn - 1) = (a, b) := ⟨_, _, rfl⟩
  have HN : Hid (nodR lk nn s = (s9, ndC id tg vx hl lx nx pv)) := by
    show _ = _
    unfold nodR
    rw [E1.out, if_neg hc]
    unfold nd1R
    simp only [e2, e3, e4, e5, e6, e7, e8, e9]
  rw [HN.out]
  have hcb : ((c1 : Int) == 0) = false := by simp; omega
  have E2 := Lib.hid e2
  have E3 := Lib.hid e3
  have E4 := Lib.hid e4
  have E5 := Lib.hid e5
  have E6 := Lib.hid e6
  have E7 := Lib.hid e7
  have E8 := Lib.hid e8
  have E9 := Lib.hid e9
  have HID : Hid (id ≤ 18446744073709551615) := take_le e2
  have HTG : Hid (tg ≤ 18446744073709551615) := take_le e3
  have HDM : Hid (dm ≤ 4096) := take_le e4
  have HHL : Hid (hl ≤ 7) := take_le e6
  have HNX : Hid (nx ≤ nn - 1) := take_le e8
  have HPV : Hid (pv ≤ nn - 1) := take_le e9
  have HN1 := Lib.hid h1
  have HN2 := Lib.hid h2
  have HLK := Lib.hid hlk
  clear e1 e2 e3 e4 e5 e6 e7 e8 e9 HN h1 h2 hlk hc
  go_enter Try.func50, Try.ntmps50
  go_upto_region 1 with fail
  (try rw [hw1])
  clear hw1
  go_upto_region 3 with (go_at_call 47; (with_reducible refine (rr_take HR1.out 0 1 E1.out (lo' := 0) rfl (hi' := 1) rfl).mono ?_); rintro e w2 ⟨rfl, h2r, h2t⟩; have HR2 := Lib.hid h2r; have HT2 := Lib.hid h2t; clear h2r h2t)
  have HK2 : Hid (Blk w2 w.heap.size 42 nzL) := HK1.out.tch HT2.out (gq_lt HLT.out (Nat.le_refl _))
  have HT2' : Hid (Tch (Gq g q) w w2) := HT1.out.trans HT2.out fun k h => .inl h
  clear HR1 HT1 HK1 HT2 E1
  go_upto_region 4 with fail
  obtain ⟨w3, hw3⟩ : ∃ x, w2.alloc (.cells #[.int .u64 0, .slice none 0 0, .int .u64 0, .int .i64 0, .slice none 0 0, .int .i64 0, .int .i64 0] 42) = x := ⟨_, rfl⟩
  have hb3 : Below w2.heap.size w2 w3 := by rw [← hw3]; exact (Below.refl _ w2).alloc (Nat.le_refl _) _
  have k3 : Blk w3 w2.heap.size 42 nzL := by rw [← hw3]; exact Blk.new _ _ _
  have HR3 := Lib.hid (HR2.out.below hb3)
  have HT3 : Hid (Tch (Gq g q) w w3) := HT2'.out.trans (Tch.of_below (S := fun _ => False) hb3) fun k h => h.elim
  have HRB3 : Hid (Blk w3 w.heap.size 42 nzL) := HK2.out.below hb3 HK2.out.lt
  have HNL : Hid (w.heap.size < w2.heap.size) := HK2.out.lt
  obtain ⟨N, hN⟩ : ∃ x, w2.heap.size = x := ⟨_, rfl⟩
  rw [hN] at k3 HNL
  have HN3 := Lib.hid k3
  (try rw [hw3])
  rw [hN]
  clear hw3 hb3 k3 hN HR2 HT2' HK2
  go_upto_region 5 with (first
    | (go_at_call 47; (with_reducible refine (rr_take HR3.out 0 18446744073709551615 E2.out (lo' := 0) rfl (hi' := 18446744073709551615) rfl).mono ?_); rintro e w4 ⟨rfl, h2r, h2t⟩; have HR4 := Lib.hid h2r; have HT4 := Lib.hid h2t; clear h2r h2t)
    | (go_at_call 47; (with_reducible refine (rr_take HR4.out 0 18446744073709551615 E3.out (lo' := 0) rfl (hi' := 18446744073709551615) rfl).mono ?_); rintro e w5 ⟨rfl, h2r, h2t⟩; have HR5 := Lib.hid h2r; have HT5 := Lib.hid h2t; clear h2r h2t; have HN5 : Hid (Blk w5 N 42 nzL) := (HN3.out.tch HT4.out (gq_lt HLT.out (by have := HNL.out; omega))).tch HT5.out (gq_lt HLT.out (by have := HNL.out; omega)); have c0 : w5.cell? ⟨N, 0, none⟩ = some (.int .u64 0) := HN5.out.cell 0; have c2 : w5.cell? ⟨N, 2, none⟩ = some (.int .u64 0) := HN5.out.cell 2; have f0 := HN5.out.frozen 0; have f2 := HN5.out.frozen 2))
  obtain ⟨w6, hw6⟩ : ∃ x, (w5.setCell ⟨N, 0, none⟩ (.int .u64 id)).setCell ⟨N, 2, none⟩ (.int .u64 tg) = x := ⟨_, rfl⟩
  have HV6 : Hid (NrV w N g q lk nn id tg s3 [] w6 none 0 0) := by
    show NrV _ _ _ _ _ _ _ _ _ _ _ _ _ _
    rw [← hw6]
    exact .begin HR5.out ((HT3.out.trans HT4.out fun k h => .inl h).trans HT5.out fun k h => .inl h) ((HRB3.out.tch HT4.out (gq_lt HLT.out (Nat.le_refl _))).tch HT5.out (gq_lt HLT.out (Nat.le_refl _))) HN5.out HLT.out HNL.out
  rw [hw6]
  clear hw6 c0 c2 f0 f2 HN5 HR5 HT5 HR4 HT4 HR3 HT3 HN3 HRB3 E2 E3
  go_upto_region 6 with (go_at_call 47; (with_reducible refine (rr_take HV6.out.rr 0 4096 E4.out (lo' := 0) rfl (hi' := 4096) rfl).mono ?_); rintro e w7 ⟨rfl, h2r, h2t⟩; have HV7 := Lib.hid (HV6.out.num h2r h2t); clear h2r h2t HV6)
  clear E4
  go_loopw [4] (fun s4' wr => ∃ (k : Nat) (s' : RS) (xs : List Int) (A : Option Addr) (n c : Nat), n + k ≤ 4096 ∧ s4' = .int .u64 k ∧ Hid (NrV w N g q lk nn id tg s' xs wr A n c) ∧ Hid (vecR k s' xs = (s5, vx))) (fun s4' _ => (intOf s4').toNat)
  case atStart => exact ⟨dm, s4, [], none, 0, 0, by have := HDM.out; omega, rfl, HV7, E5⟩
  case round =>
    obtain ⟨k, s', xs, A, n, c, hk, rfl, hn, hv⟩ := hrel
    clear HV7 E5
    by_cases hk0 : k = 0
    · subst hk0
      obtain ⟨rfl, rfl⟩ := vecR_stop hv.out (.inl rfl)
      clear hv
      have hhl := HHL.out
      go_upto_region 10 with (first
        | (go_at_call 48; (with_reducible refine HF.out.mono ?_); rintro e wf ⟨rfl, rfl⟩)
        | (go_at_call 47; (with_reducible refine (rr_take hn.out.rr 0 7 E6.out (lo' := 0) rfl (hi' := 7) rfl).mono ?_); rintro e wl ⟨rfl, h2r, h2t⟩; have HVL := Lib.hid (hn.out.num h2r h2t); clear h2r h2t; have c3 : wl.cell? ⟨N, 3, none⟩ = some (.int .i64 0) := HVL.out.nd.cell 3; have f3 := HVL.out.nd.frozen 3))
      obtain ⟨wm, hwm⟩ : ∃ x, wl.setCell ⟨N, 3, none⟩ (.int .i64 (hl : Nat)) = x := ⟨_, rfl⟩
      have HL0 := Lib.hid (NrL.start HVL.out (by omega) (hl : Nat))
      rw [hwm] at HL0
      rw [hwm]
      have HVN : Hid ((⟨A, n, c, xs⟩ : IS).norm = isN xs) := norm_isN _ _ _ _ HVL.out.len
      obtain ⟨vec, hvec⟩ : ∃ v : IS, ⟨A, n, c, xs⟩ = v := ⟨_, rfl⟩
      rw [hvec] at HL0 HVN
      obtain ⟨B3, hB3⟩ : ∃ v, wl.heap.size = v := ⟨_, rfl⟩
      rw [hB3] at HL0
      clear hvec hB3 hwm c3 f3 HVL hn E6
      go_upto_region 11 with fail
      go_loopw [5, 6, 7] (fun s5' _ _ wr => ∃ (lv k : Nat) (s' : RS) (ls : List IS) (A : Option Addr) (n c : Nat), lv + k = hl + 1 ∧ Hid (n = lv) ∧ n ≤ 8 ∧ s5' = .int .i64 lv ∧ Hid (NrL w N g q lk nn id tg hl vec B3 s' ls wr A n c) ∧ Hid (lssR lk nn k lv s' (ls.map IS.norm) = (s7, lx))) (fun s5' _ _ _ => 8 - (intOf s5').toNat)
      case atStart => exact ⟨0, hl + 1, s6, [], none, 0, 0, by omega, (rfl : (0 : Nat) = 0), by omega, rfl, HL0, E7⟩
      case round =>
        obtain ⟨lv, k, s', ls, A, n, c, hk, hnl, hn8, rfl, hn, hv⟩ := hrel
        clear HL0 E7
        have hnb : n ≤ 1048576 := by omega
        by_cases hk0 : k = 0
        · subst hk0
          have HST : Hid (0 = 0 ∨ s'.e ≠ 0) := .inl rfl
          have hlv : ¬ (lv : Int) ≤ (hl : Int) := by omega
          obtain ⟨rfl, hlx⟩ := lssR_stop hv.out HST.out
          have HLX := Lib.hid hlx
          clear hv HST hlx
          have c3 : wr.cell? ⟨N, 3, none⟩ = some (.int .i64 hl) := hn.out.nd.cell 3
          go_upto_region 20 with (first
            | (go_at_call 48; (with_reducible refine HF.out.mono ?_); rintro e wf ⟨rfl, rfl⟩)
            | (go_at_call 49; (with_reducible refine (rr_slotE hn.out.rr HN1.out HN2.out E8.out).mono ?_); rintro e x1 ⟨rfl, h2r, h2t⟩; have HL1 := Lib.hid (hn.out.num h2r h2t); clear h2r h2t c3)
            | (go_at_call 49; (with_reducible refine (rr_slotE HL1.out.rr HN1.out HN2.out E9.out).mono ?_); rintro e x2 ⟨rfl, h2r, h2t⟩; have HL2 := Lib.hid (HL1.out.num h2r h2t); clear h2r h2t; have c5 : x2.cell? ⟨N, 5, none⟩ = some (.int .i64 0) := HL2.out.nd.cell 5; have c6 : x2.cell? ⟨N, 6, none⟩ = some (.int .i64 0) := HL2.out.nd.cell 6; have f5 := HL2.out.nd.frozen 5; have f6 := HL2.out.nd.frozen 6))
          obtain ⟨V, hV⟩ : ∃ x, (x2.setCell ⟨N, 5, none⟩ (.int .i64 (nx : Nat))).setCell ⟨N, 6, none⟩ (.int .i64 (pv : Nat)) = x := ⟨_, rfl⟩
          obtain ⟨V2, hV2⟩ : ∃ x, V.setCells w.heap.size 0 (ND.cells ⟨id, vec, tg, hl, A, n, c, ls, nx, pv⟩).toList = x := ⟨_, rfl⟩
          have hnn := HN2.out
          obtain ⟨k1, k2, k3, k4, k5, k6⟩ := HL2.out.fin hnb nx pv (wf_u64K HID.out) (wf_u64K HTG.out) (wf_i64K (by have := HHL.out; omega)) (wf_i64K (by have := HNX.out; omega)) (wf_i64K (by have := HPV.out; omega)) hV hV2
          have LP := node_loadK k1
          have SR := row_store k2 (ND.cells ⟨id, vec, tg, hl, A, n, c, ls, nx, pv⟩) rfl nodeTK (nz_cells _)
          rw [hV2] at SR
          rw [hV]
          have K3 := Lib.hid k3
          have K4 := Lib.hid k4
          have K5 := Lib.hid k5
          have K6 := Lib.hid k6
          clear hV hV2 k1 k2 k3 k4 k5 k6 c5 c6 f5 f6
          go_wp2_with (first
            | ((with_reducible refine wpList_loadE (op := ⟨some 89, _, _, _, _, _⟩) LP ?leX ?leG ?leO ?leE ?_); (case leO => exact rfl); (case leE => exact rfl); (case leG => exact rfl))
            | refine wpList_storeE SR _ _ rfl rfl rfl rfl ?_)
          refine bodyPost_ret (v := .agg (ND.cells ⟨id, vec, tg, hl, A, n, c, ls, nx, pv⟩)) ?_ rfl ⟨_, rfl, K4.out, K5.out, K6.out, ?_⟩
          · exact results_cell_row Try.results50 _ _ w.heap.size 42 _ (0, 0) _ rfl K3.out Try.underlying42 rfl nodeTK
          · unfold ND.norm ndC
            rw [← HVN.out, ← HLX.out, List.length_map, HL2.out.len]
        · obtain ⟨k, rfl⟩ : ∃ j, k = j + 1 := ⟨k - 1, by omega⟩
          have hlv : (lv : Int) ≤ (hl : Int) := by omega
          have HF := Lib.hid (rr_fine hn.out.rr)
          by_cases he : s'.e = 0
          · have hvb : (s'.e == 0) = true := by simpa using he
            rw [hvb] at HF
            obtain ⟨mm, hmm⟩ : ∃ m : Nat, mostE lk lv = m := ⟨(mostE lk lv).toNat, by have := mostE_bd lk lv; omega⟩
            have hmb : 1 ≤ mm ∧ mm ≤ 64 := by have := mostE_bd lk lv; omega
            have HM := Lib.hid (fun W => eg_most lk lv W)
            rw [hmm] at HM
            obtain ⟨sb, cnt, eb⟩ : ∃ a b, takeR s' 0 mm = (a, b) := ⟨_, _, rfl⟩
            obtain ⟨sc, xl, ec⟩ : ∃ a b, lisR nn cnt sb [] = (a, b) := ⟨_, _, rfl⟩
            have hcb : cnt ≤ 64 := Nat.le_trans (take_le eb) hmb.2
            have hv2 : Hid (lssR lk nn k (lv + 1) sc (ls.map IS.norm ++ [isN xl]) = (s7, lx)) := by
              have := hv.out
              rw [lssR, if_pos he, lv1R, hmm, Int.toNat_natCast, eb] at this
              simp only [ec] at this
              exact this
            have EB := Lib.hid eb
            have EC := Lib.hid ec
            have cg := hn.out.rr.links
            have c3 : wr.cell? ⟨N, 3, none⟩ = some (.int .i64 hl) := hn.out.nd.cell 3
            clear hv he hvb hmm eb ec
            go_upto_region 15 with (first
              | (go_at_call 48; (with_reducible refine HF.out.mono ?_); rintro e wf ⟨rfl, rfl⟩)
              | (go_at_call 71; (with_reducible refine (HM.out _).mono ?_); rintro e wz ⟨rfl, rfl⟩)
              | (go_at_call 47; (with_reducible refine (rr_take hn.out.rr 0 mm EB.out (lo' := 0) rfl (hi' := (mm : Nat)) rfl).mono ?_); rintro e w4 ⟨rfl, h2r, h2t⟩; have HLW := Lib.hid (hn.out.num h2r h2t); clear h2r h2t))
            clear hn c3 cg HF HM EB
            have HI0 : Hid (NrI w4 g q lk nn sb [] w4 none 0 0) := ⟨HLW.out.rr, Tch.refl _ _, World.ownsRow_nil _ _ _ _, rfl, fun x hx => (by cases hx), HLW.out.rr.lt⟩
            go_loopw [6, 7] (fun s6' s7' wi => ∃ (j : Nat) (s3 : RS) (xs : List Int) (A3 : Option Addr) (m3 c3 : Nat), m3 + j ≤ 64 ∧ s6' = .slice A3 m3 c3 ∧ s7' = .int .u64 j ∧ Hid (NrI w4 g q lk nn s3 xs wi A3 m3 c3) ∧ Hid (lisR nn j s3 xs = (sc, xl))) (fun _ s7' _ => (intOf s7').toNat)
            case atStart => exact ⟨cnt, sb, [], none, 0, 0, by omega, rfl, rfl, HI0, EC⟩
            case round =>
              obtain ⟨j, s3, xs, A3, m3, c3, hj, rfl, rfl, hi3, hv3⟩ := hrel
      
              clear HI0 EC
              by_cases hj0 : j = 0
              · subst hj0
                have HST3 : Hid (0 = 0 ∨ s3.e ≠ 0) := .inl rfl
                obtain ⟨rfl, rfl⟩ := lisR_stop hv3.out HST3.out
                clear hv3 HST3
                have HL4 := Lib.hid (HLW.out.num hi3.out.rr hi3.out.tch)
                have hsz4 := hi3.out.tch.size
                have c4 : wr.cell? ⟨N, 4, none⟩ = some (.slice A n c) := HL4.out.nd.cell 4
                go_wp2_with (first
                  | (go_at_call 48; (with_reducible refine HF3.out.mono ?_); rintro e wf ⟨rfl, rfl⟩)
                  | (at_builtin; refine wpList_pushJ rfl (.tmp 78) (.tmp 80) 40 43 1 24 _ rfl Try.underlying40 info_ints rfl (by decide) wr B3 (.slice A n c) n (ls.map IS.v) #[.slice A3 m3 c3] rfl HL4.out.own rfl rfl (by simp [Value.oneCell']) (by omega) (by decide) HL4.out.b3.2 ?_; intro b c5 W5 ho hgr hb5 hat; have HPP := Lib.hid (HL4.out.push (fun k hk => (HLW.out.own.lt k hk).2) HLW.out.b3.2 hi3.out.own (by omega) hi3.out.wf hgr hat ho); have hq5 := HL4.out.nd.tch (grownBy_tchJ hgr) (fun h => by have := (HL4.out.own.lt _ h.symm).1; have := HL4.out.b3.1; omega); have c45 : W5.cell? ⟨N, 4, none⟩ = some (.slice A n c) := hq5.cell 4; have f45 := hq5.frozen 4; clear ho hgr hb5 hat hq5 c4))
                go_roundw
                case rel => exact ⟨lv + 1, k, _, _, _, n + 1, _, by omega, (by rw [hnl.out] : n + 1 = lv + 1), by have := hnl.out; omega, by go_num, HPP, by
                  show lssR _ _ _ _ _ _ = _
                  rw [List.map_append, List.map_singleton, norm_isN _ _ _ _ hi3.out.len]
                  exact hv2.out⟩
                case measure => simp [intOf]; omega
              · obtain ⟨j, rfl⟩ : ∃ i, j = i + 1 := ⟨j - 1, by omega⟩
                have hjb : ((j + 1 : Nat) : Int) > 0 := by omega
                have HF3 := Lib.hid (rr_fine hi3.out.rr)
                by_cases he : s3.e = 0
                · have hvb : (s3.e == 0) = true := by simpa using he
                  rw [hvb] at HF3
                  obtain ⟨sd, x, ed⟩ : ∃ a b, takeR s3 0 (nn - 1) = (a, b) := ⟨_, _, rfl⟩
                  have hv4 : Hid (lisR nn j sd (xs ++ [((x : Nat) : Int)]) = (sc, xl)) := by
                    have := hv3.out
                    rw [lisR, if_pos he, ed] at this
                    exact this
                  have ED := Lib.hid ed
                  have hxw : (Lit.int .i64 (x : Nat)).wf = true := wf_i64K (by have := take_le ed; have := HN2.out; omega)
                  have HXW := Lib.hid hxw
                  clear hv3 he hvb ed hxw
                  go_wp2_with (first
                    | (go_at_call 48; (with_reducible refine HF3.out.mono ?_); rintro e wf ⟨rfl, rfl⟩)
                    | (go_at_call 49; (with_reducible refine (rr_slotE hi3.out.rr HN1.out HN2.out ED.out).mono ?_); rintro e w8 ⟨rfl, h2r, h2t⟩; have HI8 := Lib.hid (hi3.out.num h2r h2t); clear h2r h2t)
                    | (at_builtin; refine wpList_pushJ rfl (.tmp 72) (.tmp 75) 43 3 1 8 _ rfl Try.underlying43 info_intK rfl (by decide) w8 w4.heap.size (.slice A3 m3 c3) m3 (xs.map (.int .i64)) #[.int .i64 ((x : Nat) : Int)] rfl HI8.out.own rfl rfl (by simp [Value.oneCell']) (by omega) (by decide) HI8.out.tch.size ?_; intro b c5 W5 ho hgr hb5 hat; have HI9 := Lib.hid (HI8.out.push HXW.out hgr ho); clear ho hgr hb5 hat))
                  go_roundw
                  case rel => exact ⟨j, sd, _, _, _, _, by omega, rfl, by go_num, HI9, hv4⟩
                  case measure => simp [intOf]
                · have HST3 : Hid (j + 1 = 0 ∨ s3.e ≠ 0) := .inr he
                  have hvb : (s3.e == 0) = false := by simpa using he
                  rw [hvb] at HF3
                  clear he hvb
                  obtain ⟨rfl, rfl⟩ := lisR_stop hv3.out HST3.out
                  clear hv3 HST3
                  have HL4 := Lib.hid (HLW.out.num hi3.out.rr hi3.out.tch)
                  have hsz4 := hi3.out.tch.size
                  have c4 : wr.cell? ⟨N, 4, none⟩ = some (.slice A n c) := HL4.out.nd.cell 4
                  go_wp2_with (first
                    | (go_at_call 48; (with_reducible refine HF3.out.mono ?_); rintro e wf ⟨rfl, rfl⟩)
                    | (at_builtin; refine wpList_pushJ rfl (.tmp 78) (.tmp 80) 40 43 1 24 _ rfl Try.underlying40 info_ints rfl (by decide) wr B3 (.slice A n c) n (ls.map IS.v) #[.slice A3 m3 c3] rfl HL4.out.own rfl rfl (by simp [Value.oneCell']) (by omega) (by decide) HL4.out.b3.2 ?_; intro b c5 W5 ho hgr hb5 hat; have HPP := Lib.hid (HL4.out.push (fun k hk => (HLW.out.own.lt k hk).2) HLW.out.b3.2 hi3.out.own (by omega) hi3.out.wf hgr hat ho); have hq5 := HL4.out.nd.tch (grownBy_tchJ hgr) (fun h => by have := (HL4.out.own.lt _ h.symm).1; have := HL4.out.b3.1; omega); have c45 : W5.cell? ⟨N, 4, none⟩ = some (.slice A n c) := hq5.cell 4; have f45 := hq5.frozen 4; clear ho hgr hb5 hat hq5 c4))
                  go_roundw
                  case rel => exact ⟨lv + 1, k, _, _, _, n + 1, _, by omega, (by rw [hnl.out] : n + 1 = lv + 1), by have := hnl.out; omega, by go_num, HPP, by
                    show lssR _ _ _ _ _ _ = _
                    rw [List.map_append, List.map_singleton, norm_isN _ _ _ _ hi3.out.len]
                    exact hv2.out⟩
                  case measure => simp [intOf]; omega
          · have HST : Hid (k + 1 = 0 ∨ s'.e ≠ 0) := .inr he
            have hvb : (s'.e == 0) = false := by simpa using he
            rw [hvb] at HF
            clear he hvb
            obtain ⟨rfl, hlx⟩ := lssR_stop hv.out HST.out
            have HLX := Lib.hid hlx
            clear hv HST hlx
            have c3 : wr.cell? ⟨N, 3, none⟩ = some (.int .i64 hl) := hn.out.nd.cell 3
            go_upto_region 20 with (first
              | (go_at_call 48; (with_reducible refine HF.out.mono ?_); rintro e wf ⟨rfl, rfl⟩)
              | (go_at_call 49; (with_reducible refine (rr_slotE hn.out.rr HN1.out HN2.out E8.out).mono ?_); rintro e x1 ⟨rfl, h2r, h2t⟩; have HL1 := Lib.hid (hn.out.num h2r h2t); clear h2r h2t c3)
              | (go_at_call 49; (with_reducible refine (rr_slotE HL1.out.rr HN1.out HN2.out E9.out).mono ?_); rintro e x2 ⟨rfl, h2r, h2t⟩; have HL2 := Lib.hid (HL1.out.num h2r h2t); clear h2r h2t; have c5 : x2.cell? ⟨N, 5, none⟩ = some (.int .i64 0) := HL2.out.nd.cell 5; have c6 : x2.cell? ⟨N, 6, none⟩ = some (.int .i64 0) := HL2.out.nd.cell 6; have f5 := HL2.out.nd.frozen 5; have f6 := HL2.out.nd.frozen 6))
            obtain ⟨V, hV⟩ : ∃ x, (x2.setCell ⟨N, 5, none⟩ (.int .i64 (nx : Nat))).setCell ⟨N, 6, none⟩ (.int .i64 (pv : Nat)) = x := ⟨_, rfl⟩
            obtain ⟨V2, hV2⟩ : ∃ x, V.setCells w.heap.size 0 (ND.cells ⟨id, vec, tg, hl, A, n, c, ls, nx, pv⟩).toList = x := ⟨_, rfl⟩
            have hnn := HN2.out
            obtain ⟨k1, k2, k3, k4, k5, k6⟩ := HL2.out.fin hnb nx pv (wf_u64K HID.out) (wf_u64K HTG.out) (wf_i64K (by have := HHL.out; omega)) (wf_i64K (by have := HNX.out; omega)) (wf_i64K (by have := HPV.out; omega)) hV hV2
            have LP := node_loadK k1
            have SR := row_store k2 (ND.cells ⟨id, vec, tg, hl, A, n, c, ls, nx, pv⟩) rfl nodeTK (nz_cells _)
            rw [hV2] at SR
            rw [hV]
            have K3 := Lib.hid k3
            have K4 := Lib.hid k4
            have K5 := Lib.hid k5
            have K6 := Lib.hid k6
            clear hV hV2 k1 k2 k3 k4 k5 k6 c5 c6 f5 f6
            go_wp2_with (first
              | ((with_reducible refine wpList_loadE (op := ⟨some 89, _, _, _, _, _⟩) LP ?leX ?leG ?leO ?leE ?_); (case leO => exact rfl); (case leE => exact rfl); (case leG => exact rfl))
              | refine wpList_storeE SR _ _ rfl rfl rfl rfl ?_)
            refine bodyPost_ret (v := .agg (ND.cells ⟨id, vec, tg, hl, A, n, c, ls, nx, pv⟩)) ?_ rfl ⟨_, rfl, K4.out, K5.out, K6.out, ?_⟩
            · exact results_cell_row Try.results50 _ _ w.heap.size 42 _ (0, 0) _ rfl K3.out Try.underlying42 rfl nodeTK
            · unfold ND.norm ndC
              rw [← HVN.out, ← HLX.out, List.length_map, HL2.out.len]
    · obtain ⟨k, rfl⟩ : ∃ j, k = j + 1 := ⟨k - 1, by omega⟩
      have hkb : ((k + 1 : Nat) : Int) > 0 := by omega
      have HF := Lib.hid (rr_fine hn.out.rr)
      by_cases he : s'.e = 0
      · have hvb : (s'.e == 0) = true := by simpa using he
        rw [hvb] at HF
        obtain ⟨sa, m, ea⟩ : ∃ a b, takeR s' 0 4294967295 = (a, b) := ⟨_, _, rfl⟩
        have hv2 : Hid (vecR k sa (xs ++ [zagF m]) = (s5, vx)) := by
          have := hv.out
          rw [vecR, if_pos he, ea] at this
          exact this
        have hmb : m ≤ 4294967295 := take_le ea
        have HZB := Lib.hid (zagF_bd hmb)
        have HZ := Lib.hid (fun W => pack_zagE m hmb W)
        obtain ⟨z, hz⟩ : ∃ z, zagF m = z := ⟨_, rfl⟩
        rw [hz] at HZ HZB hv2
        have EA := Lib.hid ea
        clear hv hvb he ea hmb hz
        go_upto_region 8 with (go_at_call 48; (with_reducible refine HF.out.mono ?_); rintro e wf ⟨rfl, rfl⟩)
        clear HF
        refine wp_region_held_drew (S := fun _ => True) (by kernel_rfl) trivial (fun hH => ?_)
        obtain ⟨W, hW⟩ : ∃ x, wr.drew = x := ⟨_, rfl⟩
        have HS : Hid (NrV w N g q lk nn id tg s' xs W A n c) := by show NrV _ _ _ _ _ _ _ _ _ _ _ _ _ _; rw [← hW]; exact hn.out.drew
        rw [hW]
        clear hW hn hH
        have HZW : Hid ((Lit.int .i32 z).wf = true) := by show _ = _; have := HZB.out; exact wf_i32K this
        refine wpAnyH_take (i := 0) (v := .pointer (some ⟨N, 0, none⟩)) rfl (by kernel_rfl) (by kernel_rfl) (by kernel_rfl) (fun _ _ _ h => h) (.inl ⟨by rfl, fun _ _ => by kernel_rfl⟩) trivial ?_
        (try simp only [List.getElem_toArray, List.getElem_cons_zero, Act.put, List.setIfInBounds_toArray, List.set_cons_zero, List.set_cons_succ])
        refine wpAnyH_take (i := 1) (v := .pointer (some ⟨N, 1, none⟩)) rfl (by kernel_rfl) (by kernel_rfl) (by kernel_rfl) (fun _ _ _ h => h) (.inl ⟨by rfl, fun _ _ => by kernel_rfl⟩) trivial ?_
        (try simp only [List.getElem_toArray, List.getElem_cons_zero, List.getElem_cons_succ, Act.put, List.setIfInBounds_toArray, List.set_cons_zero, List.set_cons_succ])
        refine wpAnyH_take (i := 3) (v := .pointer (some ⟨g, 0, none⟩)) rfl (by kernel_rfl) (by kernel_rfl) (by kernel_rfl) (fun _ _ _ h => h) (.inl ⟨by rfl, fun _ _ => by kernel_rfl⟩) trivial ?_
        (try simp only [List.getElem_toArray, List.getElem_cons_zero, List.getElem_cons_succ, Act.put, List.setIfInBounds_toArray, List.set_cons_zero, List.set_cons_succ])
        refine wpAnyH_all (rs := [2, 4]) (by kernel_rfl) (by simp) (fun i hi => ?_)
        rcases (by simpa using hi : i = 2 ∨ i = 4) with rfl | rfl
        · refine wpOp_value (w' := W) (.slice A n c) (by rfl) (by kernel_rfl) (exec_load (by rfl) (by rfl) (load_i32s ((HS.out.nd.cell 1).trans rfl))) ⟨trivial, ?_⟩
          (try simp only [List.getElem_toArray, List.getElem_cons_zero, List.getElem_cons_succ, Act.put, List.setIfInBounds_toArray, List.set_cons_zero, List.set_cons_succ])
          refine wpAnyH_call 4 47 #[.pointer (some ⟨g, 0, none⟩), .int .u64 0, .int .u64 4294967295] _ (by kernel_rfl) (by rfl) (by kernel_rfl) (by kernel_rfl) (rr_take HS.out.rr 0 4294967295 EA.out (lo' := 0) rfl (hi' := 4294967295) rfl) ?_
          rintro e w8 ⟨rfl, h2r, h2t⟩
          have HS8 := Lib.hid (HS.out.num h2r h2t)
          clear h2r h2t
          refine ⟨_, rfl, trivial, ?_⟩
          (try simp only [List.getElem_toArray, List.getElem_cons_zero, List.getElem_cons_succ, Act.put, List.setIfInBounds_toArray, List.set_cons_zero, List.set_cons_succ])
          refine wpAnyH_call 5 70 #[.int .u64 (m : Nat)] _ (by kernel_rfl) (by rfl) (by kernel_rfl) (by kernel_rfl) (HZ.out w8) ?_
          rintro e w9 ⟨rfl, rfl⟩
          refine ⟨_, rfl, trivial, ?_⟩
          (try simp only [List.getElem_toArray, List.getElem_cons_zero, List.getElem_cons_succ, Act.put, List.setIfInBounds_toArray, List.set_cons_zero, List.set_cons_succ])
          refine wpAnyH_take (i := 6) (v := .int .i32 z) rfl (by kernel_rfl) (by kernel_rfl) (by kernel_rfl) (fun _ _ _ h => h) (yieldsIf_conv64 HZB.out (by rfl) _ rfl rfl) trivial ?_
          (try simp only [List.getElem_toArray, List.getElem_cons_zero, List.getElem_cons_succ, Act.put, List.setIfInBounds_toArray, List.set_cons_zero, List.set_cons_succ])
          refine wpAnyH_make 7 (.slice (some ⟨w8.heap.size, 0, none⟩) 1 1) (w' := w8.alloc (.cells #[.int .i32 z] 21)) (by kernel_rfl) (by rfl) (by kernel_rfl) (by kernel_rfl) trivial ?_
          (try simp only [List.getElem_toArray, List.getElem_cons_zero, List.getElem_cons_succ, Act.put, List.setIfInBounds_toArray, List.set_cons_zero, List.set_cons_succ])
          refine wpAnyH_pushJ 8 (by kernel_rfl) (by rfl) (.tmp 32) (.tmp 37) 37 21 1 4 _ rfl Try.underlying37 info_int32 rfl (by decide) w8 (N + 1) (.slice A n c) n (xs.map (.int .i32)) #[.int .i32 z] rfl (by kernel_rfl) rfl HS8.out.own rfl rfl (by simp [Value.oneCell']) (by omega) (by decide) HS8.out.sz ?_
          intro b c2 W5 ho hgr hb5 hat
          have HP := HS8.out.push HZW.out hgr hat ho
          have SR := store_i32s (A := some ⟨b, 0, none⟩) (n := n + 1) (c := c2) (((HS8.out.nd.tch (grownBy_tchJ hgr) (fun h => by have := (HS8.out.own.lt _ h.symm).1; omega)).cell 1).trans rfl) ((HS8.out.nd.tch (grownBy_tchJ hgr) (fun h => by have := (HS8.out.own.lt _ h.symm).1; omega)).frozen 1) rfl
          obtain ⟨V, hV⟩ : ∃ V, W5.setCell ⟨N, 1, none⟩ (.slice (some ⟨b, 0, none⟩) (n + 1) c2) = V := ⟨_, rfl⟩
          rw [hV] at SR HP
          replace HP := Lib.hid HP
          clear hV ho hgr hb5 hat
          refine ⟨trivial, ?_⟩
          (try simp only [List.getElem_toArray, List.getElem_cons_zero, List.getElem_cons_succ, Act.put, List.setIfInBounds_toArray, List.set_cons_zero, List.set_cons_succ])
          refine wpAnyH_take (i := 9) (v := .pointer (some ⟨N, 0, none⟩)) rfl (by kernel_rfl) (by kernel_rfl) (by kernel_rfl) (fun _ _ _ h => h) (.inl ⟨by rfl, fun _ _ => by kernel_rfl⟩) trivial ?_
          (try simp only [List.getElem_toArray, List.getElem_cons_zero, List.getElem_cons_succ, Act.put, List.setIfInBounds_toArray, List.set_cons_zero, List.set_cons_succ])
          refine wpAnyH_take (i := 10) (v := .pointer (some ⟨N, 1, none⟩)) rfl (by kernel_rfl) (by kernel_rfl) (by kernel_rfl) (fun _ _ _ h => h) (.inl ⟨by rfl, fun _ _ => by kernel_rfl⟩) trivial ?_
          (try simp only [List.getElem_toArray, List.getElem_cons_zero, List.getElem_cons_succ, Act.put, List.setIfInBounds_toArray, List.set_cons_zero, List.set_cons_succ])
          refine wpAnyH_store 11 _ _ _ (by kernel_rfl) (by rfl) (by kernel_rfl) (by rfl) (by rfl) (by rfl) SR trivial ?_
          (try simp only [List.getElem_toArray, List.getElem_cons_zero, List.getElem_cons_succ, Act.put])
          refine wpAnyH_done (by kernel_rfl) ?_ _
          clear SR HS HS8
          go_wp2_with fail
          go_roundw
          case rel => exact ⟨k, sa, _, _, _, _, by omega, by go_num, HP, hv2⟩
          case measure => simp [intOf]
        · refine wpOp_call 47 #[.pointer (some ⟨g, 0, none⟩), .int .u64 0, .int .u64 4294967295] _ (by rfl) (by kernel_rfl) (by kernel_rfl) (rr_take HS.out.rr 0 4294967295 EA.out (lo' := 0) rfl (hi' := 4294967295) rfl) ?_
          rintro e w8 ⟨rfl, h2r, h2t⟩
          have HS8 := Lib.hid (HS.out.num h2r h2t)
          clear h2r h2t
          refine ⟨_, rfl, trivial, ?_⟩
          (try simp only [List.getElem_toArray, List.getElem_cons_zero, List.getElem_cons_succ, Act.put, List.setIfInBounds_toArray, List.set_cons_zero, List.set_cons_succ])
          refine wpAnyH_all (rs := [2, 5]) (by kernel_rfl) (by simp) (fun i hi => ?_)
          rcases (by simpa using hi : i = 2 ∨ i = 5) with rfl | rfl
          · refine wpOp_value (w' := w8) (.slice A n c) (by rfl) (by kernel_rfl) (exec_load (by rfl) (by rfl) (load_i32s ((HS8.out.nd.cell 1).trans rfl))) ⟨trivial, ?_⟩
            (try simp only [List.getElem_toArray, List.getElem_cons_zero, List.getElem_cons_succ, Act.put, List.setIfInBounds_toArray, List.set_cons_zero, List.set_cons_succ])
            refine wpAnyH_call 5 70 #[.int .u64 (m : Nat)] _ (by kernel_rfl) (by rfl) (by kernel_rfl) (by kernel_rfl) (HZ.out w8) ?_
            rintro e w9 ⟨rfl, rfl⟩
            refine ⟨_, rfl, trivial, ?_⟩
            (try simp only [List.getElem_toArray, List.getElem_cons_zero, List.getElem_cons_succ, Act.put, List.setIfInBounds_toArray, List.set_cons_zero, List.set_cons_succ])
            refine wpAnyH_take (i := 6) (v := .int .i32 z) rfl (by kernel_rfl) (by kernel_rfl) (by kernel_rfl) (fun _ _ _ h => h) (yieldsIf_conv64 HZB.out (by rfl) _ rfl rfl) trivial ?_
            (try simp only [List.getElem_toArray, List.getElem_cons_zero, List.getElem_cons_succ, Act.put, List.setIfInBounds_toArray, List.set_cons_zero, List.set_cons_succ])
            refine wpAnyH_make 7 (.slice (some ⟨w8.heap.size, 0, none⟩) 1 1) (w' := w8.alloc (.cells #[.int .i32 z] 21)) (by kernel_rfl) (by rfl) (by kernel_rfl) (by kernel_rfl) trivial ?_
            (try simp only [List.getElem_toArray, List.getElem_cons_zero, List.getElem_cons_succ, Act.put, List.setIfInBounds_toArray, List.set_cons_zero, List.set_cons_succ])
            refine wpAnyH_pushJ 8 (by kernel_rfl) (by rfl) (.tmp 32) (.tmp 37) 37 21 1 4 _ rfl Try.underlying37 info_int32 rfl (by decide) w8 (N + 1) (.slice A n c) n (xs.map (.int .i32)) #[.int .i32 z] rfl (by kernel_rfl) rfl HS8.out.own rfl rfl (by simp [Value.oneCell']) (by omega) (by decide) HS8.out.sz ?_
            intro b c2 W5 ho hgr hb5 hat
            have HP := HS8.out.push HZW.out hgr hat ho
            have SR := store_i32s (A := some ⟨b, 0, none⟩) (n := n + 1) (c := c2) (((HS8.out.nd.tch (grownBy_tchJ hgr) (fun h => by have := (HS8.out.own.lt _ h.symm).1; omega)).cell 1).trans rfl) ((HS8.out.nd.tch (grownBy_tchJ hgr) (fun h => by have := (HS8.out.own.lt _ h.symm).1; omega)).frozen 1) rfl
            obtain ⟨V, hV⟩ : ∃ V, W5.setCell ⟨N, 1, none⟩ (.slice (some ⟨b, 0, none⟩) (n + 1) c2) = V := ⟨_, rfl⟩
            rw [hV] at SR HP
            replace HP := Lib.hid HP
            clear hV ho hgr hb5 hat
            refine ⟨trivial, ?_⟩
            (try simp only [List.getElem_toArray, List.getElem_cons_zero, List.getElem_cons_succ, Act.put, List.setIfInBounds_toArray, List.set_cons_zero, List.set_cons_succ])
            refine wpAnyH_take (i := 9) (v := .pointer (some ⟨N, 0, none⟩)) rfl (by kernel_rfl) (by kernel_rfl) (by kernel_rfl) (fun _ _ _ h => h) (.inl ⟨by rfl, fun _ _ => by kernel_rfl⟩) trivial ?_
            (try simp only [List.getElem_toArray, List.getElem_cons_zero, List.getElem_cons_succ, Act.put, List.setIfInBounds_toArray, List.set_cons_zero, List.set_cons_succ])
            refine wpAnyH_take (i := 10) (v := .pointer (some ⟨N, 1, none⟩)) rfl (by kernel_rfl) (by kernel_rfl) (by kernel_rfl) (fun _ _ _ h => h) (.inl ⟨by rfl, fun _ _ => by kernel_rfl⟩) trivial ?_
            (try simp only [List.getElem_toArray, List.getElem_cons_zero, List.getElem_cons_succ, Act.put, List.setIfInBounds_toArray, List.set_cons_zero, List.set_cons_succ])
            refine wpAnyH_store 11 _ _ _ (by kernel_rfl) (by rfl) (by kernel_rfl) (by rfl) (by rfl) (by rfl) SR trivial ?_
            (try simp only [List.getElem_toArray, List.getElem_cons_zero, List.getElem_cons_succ, Act.put])
            refine wpAnyH_done (by kernel_rfl) ?_ _
            clear SR HS HS8
            go_wp2_with fail
            go_roundw
            case rel => exact ⟨k, sa, _, _, _, _, by omega, by go_num, HP, hv2⟩
            case measure => simp [intOf]
          · refine wpOp_call 70 #[.int .u64 (m : Nat)] _ (by rfl) (by kernel_rfl) (by kernel_rfl) (HZ.out w8) ?_
            rintro e w9 ⟨rfl, rfl⟩
            refine ⟨_, rfl, trivial, ?_⟩
            (try simp only [List.getElem_toArray, List.getElem_cons_zero, List.getElem_cons_succ, Act.put, List.setIfInBounds_toArray, List.set_cons_zero, List.set_cons_succ])
            refine wpAnyH_take (i := 6) (v := .int .i32 z) rfl (by kernel_rfl) (by kernel_rfl) (by kernel_rfl) (fun _ _ _ h => h) (yieldsIf_conv64 HZB.out (by rfl) _ rfl rfl) trivial ?_
            (try simp only [List.getElem_toArray, List.getElem_cons_zero, List.getElem_cons_succ, Act.put, List.setIfInBounds_toArray, List.set_cons_zero, List.set_cons_succ])
            refine wpAnyH_all (rs := [2, 7]) (by kernel_rfl) (by simp) (fun i hi => ?_)
            rcases (by simpa using hi : i = 2 ∨ i = 7) with rfl | rfl
            · refine wpOp_value (w' := w8) (.slice A n c) (by rfl) (by kernel_rfl) (exec_load (by rfl) (by rfl) (load_i32s ((HS8.out.nd.cell 1).trans rfl))) ⟨trivial, ?_⟩
              (try simp only [List.getElem_toArray, List.getElem_cons_zero, List.getElem_cons_succ, Act.put, List.setIfInBounds_toArray, List.set_cons_zero, List.set_cons_succ])
              refine wpAnyH_make 7 (.slice (some ⟨w8.heap.size, 0, none⟩) 1 1) (w' := w8.alloc (.cells #[.int .i32 z] 21)) (by kernel_rfl) (by rfl) (by kernel_rfl) (by kernel_rfl) trivial ?_
              (try simp only [List.getElem_toArray, List.getElem_cons_zero, List.getElem_cons_succ, Act.put, List.setIfInBounds_toArray, List.set_cons_zero, List.set_cons_succ])
              refine wpAnyH_pushJ 8 (by kernel_rfl) (by rfl) (.tmp 32) (.tmp 37) 37 21 1 4 _ rfl Try.underlying37 info_int32 rfl (by decide) w8 (N + 1) (.slice A n c) n (xs.map (.int .i32)) #[.int .i32 z] rfl (by kernel_rfl) rfl HS8.out.own rfl rfl (by simp [Value.oneCell']) (by omega) (by decide) HS8.out.sz ?_
              intro b c2 W5 ho hgr hb5 hat
              have HP := HS8.out.push HZW.out hgr hat ho
              have SR := store_i32s (A := some ⟨b, 0, none⟩) (n := n + 1) (c := c2) (((HS8.out.nd.tch (grownBy_tchJ hgr) (fun h => by have := (HS8.out.own.lt _ h.symm).1; omega)).cell 1).trans rfl) ((HS8.out.nd.tch (grownBy_tchJ hgr) (fun h => by have := (HS8.out.own.lt _ h.symm).1; omega)).frozen 1) rfl
              obtain ⟨V, hV⟩ : ∃ V, W5.setCell ⟨N, 1, none⟩ (.slice (some ⟨b, 0, none⟩) (n + 1) c2) = V := ⟨_, rfl⟩
              rw [hV] at SR HP
              replace HP := Lib.hid HP
              clear hV ho hgr hb5 hat
              refine ⟨trivial, ?_⟩
              (try simp only [List.getElem_toArray, List.getElem_cons_zero, List.getElem_cons_succ, Act.put, List.setIfInBounds_toArray, List.set_cons_zero, List.set_cons_succ])
              refine wpAnyH_take (i := 9) (v := .pointer (some ⟨N, 0, none⟩)) rfl (by kernel_rfl) (by kernel_rfl) (by kernel_rfl) (fun _ _ _ h => h) (.inl ⟨by rfl, fun _ _ => by kernel_rfl⟩) trivial ?_
              (try simp only [List.getElem_toArray, List.getElem_cons_zero, List.getElem_cons_succ, Act.put, List.setIfInBounds_toArray, List.set_cons_zero, List.set_cons_succ])
              refine wpAnyH_take (i := 10) (v := .pointer (some ⟨N, 1, none⟩)) rfl (by kernel_rfl) (by kernel_rfl) (by kernel_rfl) (fun _ _ _ h => h) (.inl ⟨by rfl, fun _ _ => by kernel_rfl⟩) trivial ?_
              (try simp only [List.getElem_toArray, List.getElem_cons_zero, List.getElem_cons_succ, Act.put, List.setIfInBounds_toArray, List.set_cons_zero, List.set_cons_succ])
              refine wpAnyH_store 11 _ _ _ (by kernel_rfl) (by rfl) (by kernel_rfl) (by rfl) (by rfl) (by rfl) SR trivial ?_
              (try simp only [List.getElem_toArray, List.getElem_cons_zero, List.getElem_cons_succ, Act.put])
              refine wpAnyH_done (by kernel_rfl) ?_ _
              clear SR HS HS8
              go_wp2_with fail
              go_roundw
              case rel => exact ⟨k, sa, _, _, _, _, by omega, by go_num, HP, hv2⟩
              case measure => simp [intOf]
            · refine wpOp_value (w' := w8.alloc (.cells #[.int .i32 z] 21)) (.slice (some ⟨w8.heap.size, 0, none⟩) 1 1) (by rfl) (by kernel_rfl) (by kernel_rfl) ⟨trivial, ?_⟩
              (try simp only [List.getElem_toArray, List.getElem_cons_zero, List.getElem_cons_succ, Act.put, List.setIfInBounds_toArray, List.set_cons_zero, List.set_cons_succ])
              refine wpAnyH_value 2 (.slice A n c) (by kernel_rfl) (by rfl) (by kernel_rfl) (exec_load (by rfl) (by rfl) (load_i32s (((HS8.out.nd.alloc _).cell 1).trans rfl))) trivial ?_
              (try simp only [List.getElem_toArray, List.getElem_cons_zero, List.getElem_cons_succ, Act.put, List.setIfInBounds_toArray, List.set_cons_zero, List.set_cons_succ])
              refine wpAnyH_pushJ 8 (by kernel_rfl) (by rfl) (.tmp 32) (.tmp 37) 37 21 1 4 _ rfl Try.underlying37 info_int32 rfl (by decide) w8 (N + 1) (.slice A n c) n (xs.map (.int .i32)) #[.int .i32 z] rfl (by kernel_rfl) rfl HS8.out.own rfl rfl (by simp [Value.oneCell']) (by omega) (by decide) HS8.out.sz ?_
              intro b c2 W5 ho hgr hb5 hat
              have HP := HS8.out.push HZW.out hgr hat ho
              have SR := store_i32s (A := some ⟨b, 0, none⟩) (n := n + 1) (c := c2) (((HS8.out.nd.tch (grownBy_tchJ hgr) (fun h => by have := (HS8.out.own.lt _ h.symm).1; omega)).cell 1).trans rfl) ((HS8.out.nd.tch (grownBy_tchJ hgr) (fun h => by have := (HS8.out.own.lt _ h.symm).1; omega)).frozen 1) rfl
              obtain ⟨V, hV⟩ : ∃ V, W5.setCell ⟨N, 1, none⟩ (.slice (some ⟨b, 0, none⟩) (n + 1) c2) = V := ⟨_, rfl⟩
              rw [hV] at SR HP
              replace HP := Lib.hid HP
              clear hV ho hgr hb5 hat
              refine ⟨trivial, ?_⟩
              (try simp only [List.getElem_toArray, List.getElem_cons_zero, List.getElem_cons_succ, Act.put, List.setIfInBounds_toArray, List.set_cons_zero, List.set_cons_succ])
              refine wpAnyH_take (i := 9) (v := .pointer (some ⟨N, 0, none⟩)) rfl (by kernel_rfl) (by kernel_rfl) (by kernel_rfl) (fun _ _ _ h => h) (.inl ⟨by rfl, fun _ _ => by kernel_rfl⟩) trivial ?_
              (try simp only [List.getElem_toArray, List.getElem_cons_zero, List.getElem_cons_succ, Act.put, List.setIfInBounds_toArray, List.set_cons_zero, List.set_cons_succ])
              refine wpAnyH_take (i := 10) (v := .pointer (some ⟨N, 1, none⟩)) rfl (by kernel_rfl) (by kernel_rfl) (by kernel_rfl) (fun _ _ _ h => h) (.inl ⟨by rfl, fun _ _ => by kernel_rfl⟩) trivial ?_
              (try simp only [List.getElem_toArray, List.getElem_cons_zero, List.getElem_cons_succ, Act.put, List.setIfInBounds_toArray, List.set_cons_zero, List.set_cons_succ])
              refine wpAnyH_store 11 _ _ _ (by kernel_rfl) (by rfl) (by kernel_rfl) (by rfl) (by rfl) (by rfl) SR trivial ?_
              (try simp only [List.getElem_toArray, List.getElem_cons_zero, List.getElem_cons_succ, Act.put])
              refine wpAnyH_done (by kernel_rfl) ?_ _
              clear SR HS HS8
              go_wp2_with fail
              go_roundw
              case rel => exact ⟨k, sa, _, _, _, _, by omega, by go_num, HP, hv2⟩
              case measure => simp [intOf]
      · obtain ⟨rfl, rfl⟩ := vecR_stop hv.out (.inr he)
        have hvb : (s'.e == 0) = false := by simpa using he
        rw [hvb] at HF
        clear hv he hvb
        have hhl := HHL.out
        go_upto_region 10 with (first
          | (go_at_call 48; (with_reducible refine HF.out.mono ?_); rintro e wf ⟨rfl, rfl⟩)
          | (go_at_call 47; (with_reducible refine (rr_take hn.out.rr 0 7 E6.out (lo' := 0) rfl (hi' := 7) rfl).mono ?_); rintro e wl ⟨rfl, h2r, h2t⟩; have HVL := Lib.hid (hn.out.num h2r h2t); clear h2r h2t; have c3 : wl.cell? ⟨N, 3, none⟩ = some (.int .i64 0) := HVL.out.nd.cell 3; have f3 := HVL.out.nd.frozen 3))
        obtain ⟨wm, hwm⟩ : ∃ x, wl.setCell ⟨N, 3, none⟩ (.int .i64 (hl : Nat)) = x := ⟨_, rfl⟩
        have HL0 := Lib.hid (NrL.start HVL.out (by omega) (hl : Nat))
        rw [hwm] at HL0
        rw [hwm]
        have HVN : Hid ((⟨A, n, c, xs⟩ : IS).norm = isN xs) := norm_isN _ _ _ _ HVL.out.len
        obtain ⟨vec, hvec⟩ : ∃ v : IS, ⟨A, n, c, xs⟩ = v := ⟨_, rfl⟩
        rw [hvec] at HL0 HVN
        obtain ⟨B3, hB3⟩ : ∃ v, wl.heap.size = v := ⟨_, rfl⟩
        rw [hB3] at HL0
        clear hvec hB3 hwm c3 f3 HVL hn E6
        go_upto_region 11 with fail
        go_loopw [5, 6, 7] (fun s5' _ _ wr => ∃ (lv k : Nat) (s' : RS) (ls : List IS) (A : Option Addr) (n c : Nat), lv + k = hl + 1 ∧ Hid (n = lv) ∧ n ≤ 8 ∧ s5' = .int .i64 lv ∧ Hid (NrL w N g q lk nn id tg hl vec B3 s' ls wr A n c) ∧ Hid (lssR lk nn k lv s' (ls.map IS.norm) = (s7, lx))) (fun s5' _ _ _ => 8 - (intOf s5').toNat)
        case atStart => exact ⟨0, hl + 1, s6, [], none, 0, 0, by omega, (rfl : (0 : Nat) = 0), by omega, rfl, HL0, E7⟩
        case round =>
          obtain ⟨lv, k, s', ls, A, n, c, hk, hnl, hn8, rfl, hn, hv⟩ := hrel
          clear HL0 E7
          have hnb : n ≤ 1048576 := by omega
          by_cases hk0 : k = 0
          · subst hk0
            have HST : Hid (0 = 0 ∨ s'.e ≠ 0) := .inl rfl
            have hlv : ¬ (lv : Int) ≤ (hl : Int) := by omega
            obtain ⟨rfl, hlx⟩ := lssR_stop hv.out HST.out
            have HLX := Lib.hid hlx
            clear hv HST hlx
            have c3 : wr.cell? ⟨N, 3, none⟩ = some (.int .i64 hl) := hn.out.nd.cell 3
            go_upto_region 20 with (first
              | (go_at_call 48; (with_reducible refine HF.out.mono ?_); rintro e wf ⟨rfl, rfl⟩)
              | (go_at_call 49; (with_reducible refine (rr_slotE hn.out.rr HN1.out HN2.out E8.out).mono ?_); rintro e x1 ⟨rfl, h2r, h2t⟩; have HL1 := Lib.hid (hn.out.num h2r h2t); clear h2r h2t c3)
              | (go_at_call 49; (with_reducible refine (rr_slotE HL1.out.rr HN1.out HN2.out E9.out).mono ?_); rintro e x2 ⟨rfl, h2r, h2t⟩; have HL2 := Lib.hid (HL1.out.num h2r h2t); clear h2r h2t; have c5 : x2.cell? ⟨N, 5, none⟩ = some (.int .i64 0) := HL2.out.nd.cell 5; have c6 : x2.cell? ⟨N, 6, none⟩ = some (.int .i64 0) := HL2.out.nd.cell 6; have f5 := HL2.out.nd.frozen 5; have f6 := HL2.out.nd.frozen 6))
            obtain ⟨V, hV⟩ : ∃ x, (x2.setCell ⟨N, 5, none⟩ (.int .i64 (nx : Nat))).setCell ⟨N, 6, none⟩ (.int .i64 (pv : Nat)) = x := ⟨_, rfl⟩
            obtain ⟨V2, hV2⟩ : ∃ x, V.setCells w.heap.size 0 (ND.cells ⟨id, vec, tg, hl, A, n, c, ls, nx, pv⟩).toList = x := ⟨_, rfl⟩
            have hnn := HN2.out
            obtain ⟨k1, k2, k3, k4, k5, k6⟩ := HL2.out.fin hnb nx pv (wf_u64K HID.out) (wf_u64K HTG.out) (wf_i64K (by have := HHL.out; omega)) (wf_i64K (by have := HNX.out; omega)) (wf_i64K (by have := HPV.out; omega)) hV hV2
            have LP := node_loadK k1
            have SR := row_store k2 (ND.cells ⟨id, vec, tg, hl, A, n, c, ls, nx, pv⟩) rfl nodeTK (nz_cells _)
            rw [hV2] at SR
            rw [hV]
            have K3 := Lib.hid k3
            have K4 := Lib.hid k4
            have K5 := Lib.hid k5
            have K6 := Lib.hid k6
            clear hV hV2 k1 k2 k3 k4 k5 k6 c5 c6 f5 f6
            go_wp2_with (first
              | ((with_reducible refine wpList_loadE (op := ⟨some 89, _, _, _, _, _⟩) LP ?leX ?leG ?leO ?leE ?_); (case leO => exact rfl); (case leE => exact rfl); (case leG => exact rfl))
              | refine wpList_storeE SR _ _ rfl rfl rfl rfl ?_)
            refine bodyPost_ret (v := .agg (ND.cells ⟨id, vec, tg, hl, A, n, c, ls, nx, pv⟩)) ?_ rfl ⟨_, rfl, K4.out, K5.out, K6.out, ?_⟩
            · exact results_cell_row Try.results50 _ _ w.heap.size 42 _ (0, 0) _ rfl K3.out Try.underlying42 rfl nodeTK
            · unfold ND.norm ndC
              rw [← HVN.out, ← HLX.out, List.length_map, HL2.out.len]
          · obtain ⟨k, rfl⟩ : ∃ j, k = j + 1 := ⟨k - 1, by omega⟩
            have hlv : (lv : Int) ≤ (hl : Int) := by omega
            have HF := Lib.hid (rr_fine hn.out.rr)
            by_cases he : s'.e = 0
            · have hvb : (s'.e == 0) = true := by simpa using he
              rw [hvb] at HF
              obtain ⟨mm, hmm⟩ : ∃ m : Nat, mostE lk lv = m := ⟨(mostE lk lv).toNat, by have := mostE_bd lk lv; omega⟩
              have hmb : 1 ≤ mm ∧ mm ≤ 64 := by have := mostE_bd lk lv; omega
              have HM := Lib.hid (fun W => eg_most lk lv W)
              rw [hmm] at HM
              obtain ⟨sb, cnt, eb⟩ : ∃ a b, takeR s' 0 mm = (a, b) := ⟨_, _, rfl⟩
              obtain ⟨sc, xl, ec⟩ : ∃ a b, lisR nn cnt sb [] = (a, b) := ⟨_, _, rfl⟩
              have hcb : cnt ≤ 64 := Nat.le_trans (take_le eb) hmb.2
              have hv2 : Hid (lssR lk nn k (lv + 1) sc (ls.map IS.norm ++ [isN xl]) = (s7, lx)) := by
                have := hv.out
                rw [lssR, if_pos he, lv1R, hmm, Int.toNat_natCast, eb] at this
                simp only [ec] at this
                exact this
              have EB := Lib.hid eb
              have EC := Lib.hid ec
              have cg := hn.out.rr.links
              have c3 : wr.cell? ⟨N, 3, none⟩ = some (.int .i64 hl) := hn.out.nd.cell 3
              clear hv he hvb hmm eb ec
              go_upto_region 15 with (first
                | (go_at_call 48; (with_reducible refine HF.out.mono ?_); rintro e wf ⟨rfl, rfl⟩)
                | (go_at_call 71; (with_reducible refine (HM.out _).mono ?_); rintro e wz ⟨rfl, rfl⟩)
                | (go_at_call 47; (with_reducible refine (rr_take hn.out.rr 0 mm EB.out (lo' := 0) rfl (hi' := (mm : Nat)) rfl).mono ?_); rintro e w4 ⟨rfl, h2r, h2t⟩; have HLW := Lib.hid (hn.out.num h2r h2t); clear h2r h2t))
              clear hn c3 cg HF HM EB
              have HI0 : Hid (NrI w4 g q lk nn sb [] w4 none 0 0) := ⟨HLW.out.rr, Tch.refl _ _, World.ownsRow_nil _ _ _ _, rfl, fun x hx => (by cases hx), HLW.out.rr.lt⟩
              go_loopw [6, 7] (fun s6' s7' wi => ∃ (j : Nat) (s3 : RS) (xs : List Int) (A3 : Option Addr) (m3 c3 : Nat), m3 + j ≤ 64 ∧ s6' = .slice A3 m3 c3 ∧ s7' = .int .u64 j ∧ Hid (NrI w4 g q lk nn s3 xs wi A3 m3 c3) ∧ Hid (lisR nn j s3 xs = (sc, xl))) (fun _ s7' _ => (intOf s7').toNat)
              case atStart => exact ⟨cnt, sb, [], none, 0, 0, by omega, rfl, rfl, HI0, EC⟩
              case round =>
                obtain ⟨j, s3, xs, A3, m3, c3, hj, rfl, rfl, hi3, hv3⟩ := hrel
        
                clear HI0 EC
                by_cases hj0 : j = 0
                · subst hj0
                  have HST3 : Hid (0 = 0 ∨ s3.e ≠ 0) := .inl rfl
                  obtain ⟨rfl, rfl⟩ := lisR_stop hv3.out HST3.out
                  clear hv3 HST3
                  have HL4 := Lib.hid (HLW.out.num hi3.out.rr hi3.out.tch)
                  have hsz4 := hi3.out.tch.size
                  have c4 : wr.cell? ⟨N, 4, none⟩ = some (.slice A n c) := HL4.out.nd.cell 4
                  go_wp2_with (first
                    | (go_at_call 48; (with_reducible refine HF3.out.mono ?_); rintro e wf ⟨rfl, rfl⟩)
                    | (at_builtin; refine wpList_pushJ rfl (.tmp 78) (.tmp 80) 40 43 1 24 _ rfl Try.underlying40 info_ints rfl (by decide) wr B3 (.slice A n c) n (ls.map IS.v) #[.slice A3 m3 c3] rfl HL4.out.own rfl rfl (by simp [Value.oneCell']) (by omega) (by decide) HL4.out.b3.2 ?_; intro b c5 W5 ho hgr hb5 hat; have HPP := Lib.hid (HL4.out.push (fun k hk => (HLW.out.own.lt k hk).2) HLW.out.b3.2 hi3.out.own (by omega) hi3.out.wf hgr hat ho); have hq5 := HL4.out.nd.tch (grownBy_tchJ hgr) (fun h => by have := (HL4.out.own.lt _ h.symm).1; have := HL4.out.b3.1; omega); have c45 : W5.cell? ⟨N, 4, none⟩ = some (.slice A n c) := hq5.cell 4; have f45 := hq5.frozen 4; clear ho hgr hb5 hat hq5 c4))
                  go_roundw
                  case rel => exact ⟨lv + 1, k, _, _, _, n + 1, _, by omega, (by rw [hnl.out] : n + 1 = lv + 1), by have := hnl.out; omega, by go_num, HPP, by
                    show lssR _ _ _ _ _ _ = _
                    rw [List.map_append, List.map_singleton, norm_isN _ _ _ _ hi3.out.len]
                    exact hv2.out⟩
                  case measure => simp [intOf]; omega
                · obtain ⟨j, rfl⟩ : ∃ i, j = i + 1 := ⟨j - 1, by omega⟩
                  have hjb : ((j + 1 : Nat) : Int) > 0 := by omega
                  have HF3 := Lib.hid (rr_fine hi3.out.rr)
                  by_cases he : s3.e = 0
                  · have hvb : (s3.e == 0) = true := by simpa using he
                    rw [hvb] at HF3
                    obtain ⟨sd, x, ed⟩ : ∃ a b, takeR s3 0 (nn - 1) = (a, b) := ⟨_, _, rfl⟩
                    have hv4 : Hid (lisR nn j sd (xs ++ [((x : Nat) : Int)]) = (sc, xl)) := by
                      have := hv3.out
                      rw [lisR, if_pos he, ed] at this
                      exact this
                    have ED := Lib.hid ed
                    have hxw : (Lit.int .i64 (x : Nat)).wf = true := wf_i64K (by have := take_le ed; have := HN2.out; omega)
                    have HXW := Lib.hid hxw
                    clear hv3 he hvb ed hxw
                    go_wp2_with (first
                      | (go_at_call 48; (with_reducible refine HF3.out.mono ?_); rintro e wf ⟨rfl, rfl⟩)
                      | (go_at_call 49; (with_reducible refine (rr_slotE hi3.out.rr HN1.out HN2.out ED.out).mono ?_); rintro e w8 ⟨rfl, h2r, h2t⟩; have HI8 := Lib.hid (hi3.out.num h2r h2t); clear h2r h2t)
                      | (at_builtin; refine wpList_pushJ rfl (.tmp 72) (.tmp 75) 43 3 1 8 _ rfl Try.underlying43 info_intK rfl (by decide) w8 w4.heap.size (.slice A3 m3 c3) m3 (xs.map (.int .i64)) #[.int .i64 ((x : Nat) : Int)] rfl HI8.out.own rfl rfl (by simp [Value.oneCell']) (by omega) (by decide) HI8.out.tch.size ?_; intro b c5 W5 ho hgr hb5 hat; have HI9 := Lib.hid (HI8.out.push HXW.out hgr ho); clear ho hgr hb5 hat))
                    go_roundw
                    case rel => exact ⟨j, sd, _, _, _, _, by omega, rfl, by go_num, HI9, hv4⟩
                    case measure => simp [intOf]
                  · have HST3 : Hid (j + 1 = 0 ∨ s3.e ≠ 0) := .inr he
                    have hvb : (s3.e == 0) = false := by simpa using he
                    rw [hvb] at HF3
                    clear he hvb
                    obtain ⟨rfl, rfl⟩ := lisR_stop hv3.out HST3.out
                    clear hv3 HST3
                    have HL4 := Lib.hid (HLW.out.num hi3.out.rr hi3.out.tch)
                    have hsz4 := hi3.out.tch.size
                    have c4 : wr.cell? ⟨N, 4, none⟩ = some (.slice A n c) := HL4.out.nd.cell 4
                    go_wp2_with (first
                      | (go_at_call 48; (with_reducible refine HF3.out.mono ?_); rintro e wf ⟨rfl, rfl⟩)
                      | (at_builtin; refine wpList_pushJ rfl (.tmp 78) (.tmp 80) 40 43 1 24 _ rfl Try.underlying40 info_ints rfl (by decide) wr B3 (.slice A n c) n (ls.map IS.v) #[.slice A3 m3 c3] rfl HL4.out.own rfl rfl (by simp [Value.oneCell']) (by omega) (by decide) HL4.out.b3.2 ?_; intro b c5 W5 ho hgr hb5 hat; have HPP := Lib.hid (HL4.out.push (fun k hk => (HLW.out.own.lt k hk).2) HLW.out.b3.2 hi3.out.own (by omega) hi3.out.wf hgr hat ho); have hq5 := HL4.out.nd.tch (grownBy_tchJ hgr) (fun h => by have := (HL4.out.own.lt _ h.symm).1; have := HL4.out.b3.1; omega); have c45 : W5.cell? ⟨N, 4, none⟩ = some (.slice A n c) := hq5.cell 4; have f45 := hq5.frozen 4; clear ho hgr hb5 hat hq5 c4))
                    go_roundw
                    case rel => exact ⟨lv + 1, k, _, _, _, n + 1, _, by omega, (by rw [hnl.out] : n + 1 = lv + 1), by have := hnl.out; omega, by go_num, HPP, by
                      show lssR _ _ _ _ _ _ = _
                      rw [List.map_append, List.map_singleton, norm_isN _ _ _ _ hi3.out.len]
                      exact hv2.out⟩
                    case measure => simp [intOf]; omega
            · have HST : Hid (k + 1 = 0 ∨ s'.e ≠ 0) := .inr he
              have hvb : (s'.e == 0) = false := by simpa using he
              rw [hvb] at HF
              clear he hvb
              obtain ⟨rfl, hlx⟩ := lssR_stop hv.out HST.out
              have HLX := Lib.hid hlx
              clear hv HST hlx
              have c3 : wr.cell? ⟨N, 3, none⟩ = some (.int .i64 hl) := hn.out.nd.cell 3
              go_upto_region 20 with (first
                | (go_at_call 48; (with_reducible refine HF.out.mono ?_); rintro e wf ⟨rfl, rfl⟩)
                | (go_at_call 49; (with_reducible refine (rr_slotE hn.out.rr HN1.out HN2.out E8.out).mono ?_); rintro e x1 ⟨rfl, h2r, h2t⟩; have HL1 := Lib.hid (hn.out.num h2r h2t); clear h2r h2t c3)
                | (go_at_call 49; (with_reducible refine (rr_slotE HL1.out.rr HN1.out HN2.out E9.out).mono ?_); rintro e x2 ⟨rfl, h2r, h2t⟩; have HL2 := Lib.hid (HL1.out.num h2r h2t); clear h2r h2t; have c5 : x2.cell? ⟨N, 5, none⟩ = some (.int .i64 0) := HL2.out.nd.cell 5; have c6 : x2.cell? ⟨N, 6, none⟩ = some (.int .i64 0) := HL2.out.nd.cell 6; have f5 := HL2.out.nd.frozen 5; have f6 := HL2.out.nd.frozen 6))
              obtain ⟨V, hV⟩ : ∃ x, (x2.setCell ⟨N, 5, none⟩ (.int .i64 (nx : Nat))).setCell ⟨N, 6, none⟩ (.int .i64 (pv : Nat)) = x := ⟨_, rfl⟩
              obtain ⟨V2, hV2⟩ : ∃ x, V.setCells w.heap.size 0 (ND.cells ⟨id, vec, tg, hl, A, n, c, ls, nx, pv⟩).toList = x := ⟨_, rfl⟩
              have hnn := HN2.out
              obtain ⟨k1, k2, k3, k4, k5, k6⟩ := HL2.out.fin hnb nx pv (wf_u64K HID.out) (wf_u64K HTG.out) (wf_i64K (by have := HHL.out; omega)) (wf_i64K (by have := HNX.out; omega)) (wf_i64K (by have := HPV.out; omega)) hV hV2
              have LP := node_loadK k1
              have SR := row_store k2 (ND.cells ⟨id, vec, tg, hl, A, n, c, ls, nx, pv⟩) rfl nodeTK (nz_cells _)
              rw [hV2] at SR
              rw [hV]
              have K3 := Lib.hid k3
              have K4 := Lib.hid k4
              have K5 := Lib.hid k5
              have K6 := Lib.hid k6
              clear hV hV2 k1 k2 k3 k4 k5 k6 c5 c6 f5 f6
              go_wp2_with (first
                | ((with_reducible refine wpList_loadE (op := ⟨some 89, _, _, _, _, _⟩) LP ?leX ?leG ?leO ?leE ?_); (case leO => exact rfl); (case leE => exact rfl); (case leG => exact rfl))
                | refine wpList_storeE SR _ _ rfl rfl rfl rfl ?_)
              refine bodyPost_ret (v := .agg (ND.cells ⟨id, vec, tg, hl, A, n, c, ls, nx, pv⟩)) ?_ rfl ⟨_, rfl, K4.out, K5.out, K6.out, ?_⟩
              · exact results_cell_row Try.results50 _ _ w.heap.size 42 _ (0, 0) _ rfl K3.out Try.underlying42 rfl nodeTK
              · unfold ND.norm ndC
                rw [← HVN.out, ← HLX.out, List.length_map, HL2.out.len]
end Go.Proofs.Ytbpcddimnbjoeaa
