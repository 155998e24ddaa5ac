/- Vectors at hand, lists of them, a book of one part; vec.Check and vec.Dist of such; quant.right, Check, Dim, fits. -/
import Derived.Test.YtlmgfbhgamchgaaVecM
import Derived.Test.YtlmgfbhgamchgaaSub
import Derived.Test.YtlmgfbhgamchgaaTch
import Derived.WalkKit
import Derived.Deep.Cut
import Derived.Lib.Hide
namespace Go.Proofs.Ytlmgfbhgamchgaa
open Go.RowKit
/-- A vector. -/
structure Vc where
  A : Option Addr
  n : Nat
  c : Nat
  xs : List Int
def Vc.v (l : Vc) : Value := .slice l.A l.n l.c
/-- It is at hand. -/
def Vc.At (w : World) (B : Nat) (l : Vc) : Prop := (l.A = none → l.n = 0 ∧ l.c = 0) ∧ (l.n ≤ l.c ∧ l.n ≤ 9223372036854775807) ∧ Rd w B l.A l.n (l.xs.map (.int .i32)) ∧ ∀ z ∈ l.xs, -2147483648 ≤ z ∧ z ≤ 2147483647
/-- Some vectors at hand. -/
def Vcs (w : World) (B : Nat) (A : Option Addr) (n : Nat) (l : List Vc) : Prop := Rd w B A n (l.map Vc.v) ∧ ∀ v ∈ l, v.At w B
/-- What they are. -/
def vxs (l : List Vc) : List (List Int) := l.map Vc.xs
section
variable {w w' : World} {B B' n : Nat} {A : Option Addr} {l : List Vc} {v : Vc}
theorem Vc.At.below (h : v.At w B) (hb : Below B w w') : v.At w' B := ⟨h.1, h.2.1, h.2.2.1.below hb, h.2.2.2⟩
theorem Vc.At.more (h : v.At w B) (hB : B ≤ B') : v.At w B' := ⟨h.1, h.2.1, h.2.2.1.more hB, h.2.2.2⟩
theorem Vc.At.on (h : v.At w B) (hB : B ≤ w.heap.size) (hb : Below w.heap.size w w') : v.At w' w'.heap.size := ((h.more hB).below hb).more hb.size
theorem Vc.At.len (h : v.At w B) : v.xs.length = v.n := h.2.2.1.lenI
theorem Vcs.below (h : Vcs w B A n l) (hb : Below B w w') : Vcs w' B A n l := ⟨h.1.below hb, fun v hv => (h.2 v hv).below hb⟩
theorem Vcs.more (h : Vcs w B A n l) (hB : B ≤ B') : Vcs w B' A n l := ⟨h.1.more hB, fun v hv => (h.2 v hv).more hB⟩
theorem Vcs.on (h : Vcs w B A n l) (hB : B ≤ w.heap.size) (hb : Below w.heap.size w w') : Vcs w' w'.heap.size A n l := ((h.more hB).below hb).more hb.size
theorem Vcs.len (h : Vcs w B A n l) : l.length = n := by have := h.1.len; simpa using this
theorem Vcs.at_ (h : Vcs w B A n l) {i : Nat} (hi : i < n) : ∃ b o v, A = some ⟨b, o, none⟩ ∧ b < B ∧ l[i]? = some v ∧ v.At w B ∧ w.cell? ⟨b, o + i, none⟩ = some v.v := by
  obtain ⟨b, o, u, e, hb, hu, hc⟩ := h.1.at_ hi
  rw [List.getElem?_map] at hu
  obtain ⟨v, hv, rfl⟩ := Option.map_eq_some_iff.1 hu
  exact ⟨b, o, v, e, hb, hv, h.2 v (List.mem_of_getElem? hv), hc⟩
theorem vxs_len : (vxs l).length = l.length := by simp [vxs]
theorem vxs_lg {i : Nat} (h : l[i]? = some v) : lg (vxs l) i = v.xs := by rw [lg, vxs, List.getD_eq_getElem?_getD, List.getElem?_map, h]; rfl
theorem Rd.dropV {L m c k : Nat} {vs : List Value} (h : Rd w L A m vs) (hk : k ≤ m) (hc : m ≤ c) : Rd w L (subA A k c) (m - k) (vs.drop k) := by
  refine ⟨by have := h.len; simp; omega, fun hn => ?_⟩
  obtain ⟨b, o, e, hb, hcell⟩ := h.2 (by omega)
  refine ⟨b, o + k, by unfold subA; rw [if_neg (by omega), e]; simp [Addr.add], hb, fun j u hu => ?_⟩
  rw [List.getElem?_drop] at hu
  rw [Nat.add_assoc]
  exact hcell (k + j) u hu
theorem Vcs.drop1 {c k : Nat} (h : Vcs w B A n l) (hk : k ≤ n) (hc : n ≤ c) : Vcs w B (subA A k c) (n - k) (l.drop k) :=
  ⟨by rw [List.map_drop]; exact h.1.dropV hk hc, fun v hv => h.2 v (List.mem_of_mem_drop hv)⟩
theorem Vcs.rdm (h : Vcs w B A n l) : RdM .i32 w B A n (vxs l) := by
  refine ⟨by rw [vxs_len, h.len], l.map Vc.v, h.1, fun i hi => ?_⟩
  obtain ⟨b, o, v, e, hb, hv, hat, hc⟩ := h.at_ hi
  rw [vxs_lg hv, hat.len]
  exact ⟨v.A, v.c, by rw [List.getElem?_map, hv]; rfl, hat.2.1.1, hat.2.2.1⟩
end
theorem vdist (a b : Vc) (w : World) (B : Nat) (ha : a.At w B) (hb : b.At w B) : Calls Try.prog 19 #[a.v, b.v] w fun e w' => e = .returned (.int .u64 (distE a.xs b.xs : Nat)) ∧ w = w' :=
  vec_dist a.A a.n a.c a.xs b.A b.n b.c b.xs B w ha.2.2.1 hb.2.2.1 ha.2.2.2 hb.2.2.2 ha.2.1.2 hb.2.1.2
theorem vchk (a : Vc) (dim : Int) (w : World) (B : Nat) (ha : a.At w B) : Calls Try.prog 14 #[a.v, .int .i64 dim] w fun e w' => e = .returned (.int .i64 (vchkE a.xs dim)) ∧ w = w' :=
  vec_check a.A a.n a.c B a.xs dim w ha.2.2.1 ha.2.1.2
/-- Whether a center may not be. -/
def badC (n : Nat) (xs : List Int) : Bool := !chkV xs n
set_option maxRecDepth 100000 in
theorem q_right1 (a : Vc) (g n : Nat) (w : World) (B : Nat) (ha : a.At w B) (hg : w.cell? ⟨g, 0, none⟩ = some (.int .i64 (n : Nat))) :
    Calls Try.prog 56 #[a.v, .pointer (some ⟨g, 0, none⟩)] w fun e w' => e = .returned (.bool (badC n a.xs)) ∧ w = w' := by
  have HC := Lib.hid (vchk a n w B ha)
  have hl := ha.len
  obtain ⟨A, m, c, xs⟩ := a
  simp only [Vc.v] at hl HC ⊢
  by_cases h : m = n
  · subst h
    have t1 : ((m : Int) != (m : Int)) = false := by simp
    cases hk : chkV xs m with
    | true =>
      have HB : Hid (badC m xs = false) := by show _ = _; unfold badC; rw [hk]; rfl
      unfold vchkE at HC
      rw [hk] at HC
      clear ha hl hk
      go_enter Try.func56, Try.ntmps56
      go_wp2_with (go_at_call 14; (with_reducible refine HC.out.mono ?_); rintro e w' ⟨rfl, rfl⟩)
      go_ret
      exact ⟨ret_bool HB.out.symm, rfl⟩
    | false =>
      have HB : Hid (badC m xs = true) := by show _ = _; unfold badC; rw [hk]; rfl
      unfold vchkE at HC
      rw [hk] at HC
      clear ha hl hk
      go_enter Try.func56, Try.ntmps56
      go_wp2_with (go_at_call 14; (with_reducible refine HC.out.mono ?_); rintro e w' ⟨rfl, rfl⟩)
      go_ret
      exact ⟨ret_bool HB.out.symm, rfl⟩
  · have t1 : ((m : Int) != (n : Int)) = true := by simp; omega
    have HB : Hid (badC n xs = true) := by show _ = _; unfold badC chkV; rw [decide_eq_false (by omega)]; rfl
    clear ha hl h HC
    go_enter Try.func56, Try.ntmps56
    go_wp2
    go_ret
    exact ⟨ret_bool HB.out.symm, rfl⟩
set_option maxRecDepth 100000 in
set_option maxHeartbeats 1000000 in
theorem idx_vc (A : Option Addr) (n c : Nat) (l : List Vc) (f : FuncId) (caps : Array Value) (q : List Int → Bool) (w : World) (B : Nat) (hr : Vcs w B A n l) (hn : n ≤ 1048576)
    (hcf : ∀ args w, (callFunc f args).run Try.prog w = .ok (.enter f args) w)
    (hcall : ∀ v : Vc, v.At w B → Calls Try.prog f (#[v.v] ++ caps) w fun e w' => e = .returned (.bool (q v.xs)) ∧ w = w') :
    Calls Try.prog 73 #[.slice A n c, .func (.func f) #[] caps] w fun e w' => (∃ i : Int, e = .returned (.int .i64 i) ∧ decide (0 ≤ i) = (vxs l).any q) ∧ w = w' := by
  have HR := Lib.hid hr
  have HC := Lib.hid hcall
  have HL : Hid ((vxs l).length = n) := by show _ = _; rw [vxs_len, hr.len]
  clear hr hcall
  go_enter Try.func73, Try.ntmps73
  go_wp2_with fail
  go_loop [8] (fun i => ∃ k : Nat, k ≤ n ∧ i = .int .i64 k ∧ Hid (((vxs l).take k).any q = false)) (fun i => n - (intOf i).toNat)
  case atStart => exact ⟨0, Nat.zero_le _, rfl, rfl⟩
  case round =>
    obtain ⟨k, hk, rfl, hv⟩ := hrel
    by_cases hlt : k < n
    · obtain ⟨b, o, v, rfl, _, hu, hat, hc⟩ := HR.out.at_ hlt
      have HCV := Lib.hid (HC.out v hat)
      have hst : (vxs l).take (k + 1) = (vxs l).take k ++ [v.xs] := by rw [List.take_add_one, vxs, List.getElem?_map, hu]; rfl
      have hmem : v.xs ∈ vxs l := List.mem_map.2 ⟨v, List.mem_of_getElem? hu, rfl⟩
      obtain ⟨VA, vn, vc, xs⟩ := v
      simp only [Vc.v] at hc HCV hst hmem
      cases hb : q xs with
      | true =>
        rw [hb] at HCV
        have HA : Hid ((vxs l).any q = true) := List.any_eq_true.2 ⟨xs, hmem, hb⟩
        clear hb hst hmem hat hu
        go_wp2_with fail
        refine HCV.out.mono ?_
        rintro e w' ⟨rfl, rfl⟩
        go_wp2_with fail
        go_ret
        exact ⟨⟨_, rfl, by rw [HA.out]; simp⟩, rfl⟩
      | false =>
        rw [hb] at HCV
        have HV : Hid (((vxs l).take (k + 1)).any q = false) := by show _ = _; rw [hst, List.any_append, hv.out]; simp [hb]
        clear hb hst hmem hat hu
        go_wp2_with fail
        refine HCV.out.mono ?_
        rintro e w' ⟨rfl, rfl⟩
        go_wp2_with fail
        go_round
        case rel => exact ⟨k + 1, by omega, by go_num, HV⟩
        case measure => simp [intOf]; omega
    · obtain rfl : k = n := by omega
      have HA : Hid ((vxs l).any q = false) := by have := hv.out; rw [← HL.out, List.take_length] at this; exact this
      go_wp2
      go_ret
      exact ⟨⟨_, rfl, by rw [HA.out]; rfl⟩, rfl⟩
set_option maxRecDepth 100000 in
theorem has_vc (A : Option Addr) (n c : Nat) (l : List Vc) (f : FuncId) (caps : Array Value) (q : List Int → Bool) (w : World) (B : Nat) (hr : Vcs w B A n l) (hn : n ≤ 1048576)
    (hcf : ∀ args w, (callFunc f args).run Try.prog w = .ok (.enter f args) w)
    (hcall : ∀ v : Vc, v.At w B → Calls Try.prog f (#[v.v] ++ caps) w fun e w' => e = .returned (.bool (q v.xs)) ∧ w = w') :
    Calls Try.prog 55 #[.slice A n c, .func (.func f) #[] caps] w fun e w' => e = .returned (.bool ((vxs l).any q)) ∧ w = w' := by
  have h := Lib.hid (idx_vc A n c l f caps q w B hr hn hcf hcall)
  clear hr hcall hcf
  go_enter Try.func55, Try.ntmps55
  go_wp2_with fail
  refine h.out.mono ?_
  rintro e w' ⟨⟨i, rfl, hi⟩, rfl⟩
  have HI := Lib.hid hi
  clear hi
  go_wp2_with fail
  go_ret
  exact ⟨ret_bool HI.out, rfl⟩
/-- Whether a part's centers may be. -/
def rightL (zss : List (List Int)) : Bool := !(zss.any (badC (lg zss 0).length))
set_option maxRecDepth 100000 in
set_option maxHeartbeats 1000000 in
theorem q_right (A : Option Addr) (n c : Nat) (l : List Vc) (w : World) (hr : Vcs w w.heap.size A n l) (h1 : 1 ≤ n) (h2 : n ≤ 256) :
    Calls Try.prog 32 #[.slice A n c] w fun e w' => e = .returned (.bool (rightL (vxs l))) ∧ Below w.heap.size w w' := by
  obtain ⟨b, o, v, rfl, hb, hu, hat, hc⟩ := hr.at_ (i := 0) (by omega)
  have hlg := vxs_lg hu
  have hvl := hat.len
  obtain ⟨VA, vn, vc, xs⟩ := v
  simp only [Vc.v] at hc hlg hvl
  rw [Nat.add_zero] at hc
  obtain ⟨w1, hw1⟩ : ∃ x : World, (w.alloc (.cells #[.int .i64 0] 3)).setCell ⟨w.heap.size, 0, none⟩ (.int .i64 vn) = x := ⟨_, rfl⟩
  have B1 : Below w.heap.size w w1 := by
    rw [← hw1]
    exact ((Below.refl _ _).alloc (Nat.le_refl _) _).setCell (p := ⟨w.heap.size, 0, none⟩) (Nat.le_refl _) _
  have hk : w1.cell? ⟨w.heap.size, 0, none⟩ = some (.int .i64 vn) := by
    rw [← hw1]
    exact ((Blk.new w 3 #[.int .i64 0]).set_ 0 (.int .i64 vn)).cell 0
  have HH := Lib.hid (has_vc (some ⟨b, o, none⟩) n c l 56 #[.pointer (some ⟨w.heap.size, 0, none⟩)] (badC vn) w1 w.heap.size (hr.below B1) (by omega) (fun args w => by kernel_rfl) (fun v hv => q_right1 v w.heap.size vn w1 w.heap.size hv hk))
  have HB1 := Lib.hid B1
  have HE : Hid ((vxs l).any (badC vn) = !rightL (vxs l)) := by show _ = _; unfold rightL; rw [hlg, hvl]; simp
  have t1 : decide (n < 1) = false := by simp; omega
  have t2 : decide (256 < n) = false := by simp; omega
  rw [HE.out] at HH
  obtain ⟨r, hrr⟩ : ∃ r, rightL (vxs l) = r := ⟨_, rfl⟩
  rw [hrr] at HH ⊢
  clear hr hu hat hlg hvl hb B1 hk HE hrr
  go_enter Try.func32, Try.ntmps32
  go_wp2_with (go_at_call 55; (try rw [hw1]); (with_reducible refine HH.out.mono ?_); rintro e w' ⟨rfl, rfl⟩)
  go_ret
  exact ⟨ret_bool (by simp), HB1.out⟩
end Go.Proofs.Ytlmgfbhgamchgaa
