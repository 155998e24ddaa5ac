/- Getter: answers at hand; whether they are few. -/
import Derived.Test.YtkhnnjeinpojkaaGtZ
import Derived.Test.YtkhnnjeinpojkaaRs
namespace Go.Proofs.Ytkhnnjeinpojkaa
open Go.RowKit
/-- An answer. -/
structure GD where
  ok : Bool
  n : Int
  m : Int
  LA : Option Addr
  ll : Nat
  lc : Nat
  id : Int
  VA : Option Addr
  vn : Nat
  vc : Nat
  vec : List Int
  tags : Int
def GD.L (g : GD) : Value := .slice g.LA g.ll g.lc
def GD.V (g : GD) : Value := .slice g.VA g.vn g.vc
def GD.cells (g : GD) : Array Value := gotL g.ok g.n g.m g.L g.id g.V g.tags
/-- A vector, of any length. -/
def GV (w : World) (B : Nat) (A : Option Addr) (n c : Nat) (vec : List Int) : Prop := (A = none → n = 0 ∧ c = 0) ∧ Rd w B A n (vec.map (.int .i32))
theorem GV.vv {w : World} {B : Nat} {A : Option Addr} {n c : Nat} {vec : List Int} (h : GV w B A n c vec) (hn : n ≤ 50) (hB : B ≤ w.heap.size) : VV w (.slice A n c) vec := ⟨A, n, c, rfl, by omega, h.1, h.2.more hB⟩
theorem GV.below {w w' : World} {B : Nat} {A : Option Addr} {n c : Nat} {vec : List Int} (h : GV w B A n c vec) (hb : Below B w w') : GV w' B A n c vec := ⟨h.1, h.2.below hb⟩
/-- Answers at hand. -/
def Gots (w : World) (B : Nat) (A : Option Addr) (n : Nat) (gs : List GD) : Prop := Rs w B A n 7 (gs.map fun g => g.cells.toList) ∧ ∀ g ∈ gs, GV w B g.VA g.vn g.vc g.vec
theorem Gots.len {w : World} {B : Nat} {A : Option Addr} {n : Nat} {gs : List GD} (h : Gots w B A n gs) : gs.length = n := by simpa using h.1.len
theorem Gots.below {w w' : World} {B : Nat} {A : Option Addr} {n : Nat} {gs : List GD} (h : Gots w B A n gs) (hb : Below B w w') : Gots w' B A n gs := ⟨h.1.below hb, fun g hg => (h.2 g hg).below hb⟩
theorem Gots.at_ {w : World} {B : Nat} {A : Option Addr} {n : Nat} {gs : List GD} (h : Gots w B A n gs) {i : Nat} (hi : i < n) : ∃ b o g, A = some ⟨b, o, none⟩ ∧ b < B ∧ gs[i]? = some g ∧ w.rangeAt b (o + i * 7) g.cells.toList ∧ GV w B g.VA g.vn g.vc g.vec := by
  obtain ⟨b, o, c, e, hb, hc, _, hr⟩ := h.1.at_ hi
  rw [List.getElem?_map, Option.map_eq_some_iff] at hc
  obtain ⟨g, hg, rfl⟩ := hc
  exact ⟨b, o, g, e, hb, hg, hr, h.2 g (List.mem_of_getElem? hg)⟩
theorem info_got : (Try.prog.info? 42).map (fun i => (i.zero, i.size, i.bytes)) = some (some (.agg #[.bool false, .int .i64 0, .int .i64 0, .slice none 0 0, .int .u64 0, .slice none 0 0, .int .u64 0]), 7, 88) := by kernel_rfl
/-- No answer. -/
def gd0 : GD := ⟨false, 0, 0, none, 0, 0, 0, none, 0, 0, [], 0⟩
theorem Gots.more {w : World} {B B' : Nat} {A : Option Addr} {n : Nat} {gs : List GD} (h : Gots w B A n gs) (hB : B ≤ B') : Gots w B' A n gs := ⟨h.1.more hB, fun g hg => ⟨(h.2 g hg).1, (h.2 g hg).2.more hB⟩⟩
def gflat (gs : List GD) : List Value := (gs.map fun g => g.cells.toList).flatten
theorem gcells_len (gs : List GD) : ∀ c ∈ gs.map (fun g => g.cells.toList), c.length = 7 := by
  intro c hc
  obtain ⟨g, _, rfl⟩ := List.mem_map.1 hc
  rfl
theorem gflat_len (gs : List GD) : (gflat gs).length = gs.length * 7 := by
  unfold gflat
  rw [flat_len _ (gcells_len gs), List.length_map]
theorem gflat_one (gs : List GD) : ∀ u ∈ gflat gs, u.oneCell' = true := by
  intro u hu
  obtain ⟨c, hc, hu⟩ := List.mem_flatten.1 hu
  obtain ⟨g, _, rfl⟩ := List.mem_map.1 hc
  simp only [GD.cells, gotL, GD.L, GD.V, List.mem_cons, List.not_mem_nil, or_false] at hu
  rcases hu with rfl | rfl | rfl | rfl | rfl | rfl | rfl <;> rfl
/-- Behind the append: all of them, and none ahead. -/
theorem gots_own {w : World} {base n : Nat} {v : Value} {gs : List GD} (h : w.ownsRow base 42 7 v (1 + n) (gd0.cells.toList ++ gflat gs)) (hn : gs.length = n) {B : Nat} (hg : ∀ g ∈ gs, GV w B g.VA g.vn g.vc g.vec) (hB : B ≤ w.heap.size) :
    ∃ g cap, v = .slice (some ⟨g, 0, none⟩) (1 + n) cap ∧ base ≤ g ∧ Gots w w.heap.size (some ⟨g, 0, none⟩) (1 + n) (gd0 :: gs) := by
  have h' : w.ownsRow base 42 7 v (1 + n) ((gd0 :: gs).map fun g => g.cells.toList).flatten := h
  obtain ⟨g, cap, e, hb, hl, hr⟩ := Rs.of_own h' (gcells_len _) (by simp; omega) (by omega)
  refine ⟨g, cap, e, hb, hr, fun x hx => ?_⟩
  rcases List.mem_cons.1 hx with rfl | hx
  · exact ⟨fun _ => ⟨rfl, rfl⟩, Rd.nil_⟩
  · exact ⟨(hg x hx).1, (hg x hx).2.more hB⟩
/-- Whether answers are few. -/
def fewE (vn : Nat) (gs : List GD) : Bool := decide (gs.length ≤ 400) && decide (vn ≤ 50) && gs.all fun g => decide (g.ll ≤ 60) && decide (g.vn ≤ 50)
theorem fewE_iff {vn : Nat} {gs : List GD} : fewE vn gs = true ↔ gs.length ≤ 400 ∧ vn ≤ 50 ∧ ∀ g ∈ gs, g.ll ≤ 60 ∧ g.vn ≤ 50 := by
  simp only [fewE, Bool.and_eq_true, decide_eq_true_eq, List.all_eq_true, and_assoc]
def SmallR (b : Bool) (w : World) (e : Ending) (w' : World) : Prop := e = .returned (.int .i64 (if b then 1 else 0)) ∧ Below w.heap.size w w'
set_option maxRecDepth 100000 in
set_option maxHeartbeats 1000000 in
theorem small28 (k id tags kk ef dr : Int) (VA : Option Addr) (vn vc : Nat) (A : Option Addr) (n c : Nat) (gs : List GD) (w : World) (hg : Gots w w.heap.size A n gs) (hvn : vn ≤ maxLen) (hn : n ≤ maxLen) :
    Calls Try.prog 10 #[.agg (callL k id (.slice VA vn vc) tags kk ef dr), .slice A n c] w (SmallR (fewE vn gs) w) := by
  have hlen := hg.len
  obtain ⟨w1, hw1⟩ : ∃ x, (w.alloc (.cells (callL k id (.slice VA vn vc) tags kk ef dr) 27)) = x := ⟨_, rfl⟩
  have C1 : Blk w1 w.heap.size 27 (callL k id (.slice VA vn vc) tags kk ef dr) := by rw [← hw1]; exact Blk.new _ _ _
  have b1 : Below w.heap.size w w1 := by rw [← hw1]; exact (Below.refl _ w).alloc (Nat.le_refl _) _
  have c2 : w1.cell? ⟨w.heap.size, 2, none⟩ = some (.slice VA vn vc) := C1.cell 2
  have HG := Lib.hid hg
  have HB := Lib.hid b1
  have hF := @fewE_iff vn gs
  rw [hlen] at hF
  obtain ⟨F, hf⟩ : ∃ F, fewE vn gs = F := ⟨_, rfl⟩
  rw [hf] at hF ⊢
  have HF := Lib.hid hF
  unfold maxLen at hvn hn
  have HL := Lib.hid hlen
  clear hg b1 C1 hF hf hlen
  unfold callL at hw1 ⊢
  by_cases h1 : n ≤ 400
  · by_cases h2 : vn ≤ 50
    · go_enter Try.func10, Try.ntmps10
      go_upto_region 1 with fail
      (try rw [hw1])
      clear hw1
      go_wp2_with fail
      go_loopw [19] (fun i wr => ∃ k : Nat, k ≤ n ∧ i = .int .i64 k ∧ Hid (∀ g ∈ gs.take k, g.ll ≤ 60 ∧ g.vn ≤ 50) ∧ Hid (Below w.heap.size w wr)) (fun i _ => n - (intOf i).toNat)
      case atStart => exact ⟨0, Nat.zero_le _, rfl, Lib.hid (by simp), HB⟩
      case round =>
        obtain ⟨j, hj, rfl, hq, hb⟩ := hrel
        by_cases hlt : j < n
        · obtain ⟨b, o, g, hA, hbb, hgj, hr, hv⟩ := (HG.out.below hb.out).at_ hlt
          subst hA
          have LG : (Instr.loadAt 42 (.pointer (some ⟨b, o + j * 7, none⟩))).run Try.prog wr = .ok (.agg g.cells) wr := range_load hr Try.underlying42 rfl gotT
          have hvl : g.vn = g.vec.length := hv.2.lenI.symm
          have hs := hb.out.size
          obtain ⟨wg, hwg⟩ : ∃ x, wr.alloc (.cells g.cells 42) = x := ⟨_, rfl⟩
          have G1 : Blk wg wr.heap.size 42 g.cells := by rw [← hwg]; exact Blk.new _ _ _
          have hb' : Below w.heap.size w wg := by rw [← hwg]; exact hb.out.alloc hs _
          have g3 : wg.cell? ⟨wr.heap.size, 3, none⟩ = some (.slice g.LA g.ll g.lc) := G1.cell 3
          have g5 : wg.cell? ⟨wr.heap.size, 5, none⟩ = some (.slice g.VA g.vn g.vc) := G1.cell 5
          have HB' := Lib.hid hb'
          have HGJ := Lib.hid hgj
          clear hb hr hv hvl hs G1 hb' hgj hbb
          unfold GD.cells gotL GD.L GD.V at LG hwg
          have hall : ∀ (q1 : g.ll ≤ 60) (q2 : g.vn ≤ 50), Hid (∀ g' ∈ gs.take (j + 1), g'.ll ≤ 60 ∧ g'.vn ≤ 50) := by
            intro q1 q2 g' hg'
            rw [List.take_add_one, HGJ.out] at hg'
            rcases List.mem_append.1 hg' with h | h
            · exact hq.out g' h
            · simp at h; subst h; exact ⟨q1, q2⟩
          have hno : ¬ (g.ll ≤ 60 ∧ g.vn ≤ 50) → Hid (F = false) := by
            intro h
            cases hF : F with
            | false => exact Lib.hid rfl
            | true => exact absurd ((HF.out.1 hF).2.2 g (List.mem_of_getElem? HGJ.out)) h
          by_cases q1 : g.ll ≤ 60
          · by_cases q2 : g.vn ≤ 50
            · have q := hall q1 q2
              clear hall hno hq HGJ
              go_upto_region 6 with (first | refine wpList_loadE LG _ rfl rfl rfl ?_)
              (try rw [hwg])
              clear hwg LG
              go_wp2_with fail
              go_roundw
              case rel => exact ⟨j + 1, by omega, by go_num, q, HB'⟩
              case measure => simp [intOf]; omega
            · have q := hno (by omega)
              clear hall hno hq HGJ
              go_upto_region 6 with (first | refine wpList_loadE LG _ rfl rfl rfl ?_)
              (try rw [hwg])
              clear hwg LG
              go_wp2_with fail
              go_ret
              exact ⟨by rw [q.out]; rfl, HB'.out⟩
          · have q := hno (by omega)
            clear hall hno hq HGJ
            go_upto_region 6 with (first | refine wpList_loadE LG _ rfl rfl rfl ?_)
            (try rw [hwg])
            clear hwg LG
            go_wp2_with fail
            go_ret
            exact ⟨by rw [q.out]; rfl, HB'.out⟩
        · have q : Hid (F = true) := HF.out.2 ⟨h1, h2, fun g hg' => hq.out g (by rw [List.take_of_length_le (by rw [HL.out]; omega)]; exact hg')⟩
          clear hq
          go_wp2_with fail
          go_ret
          exact ⟨by rw [q.out]; rfl, hb.out⟩
    · have q : Hid (F = false) := by
        cases hF : F with
        | false => exact Lib.hid rfl
        | true => exact absurd (HF.out.1 hF).2.1 h2
      clear HF
      go_enter Try.func10, Try.ntmps10
      go_upto_region 1 with fail
      (try rw [hw1])
      clear hw1
      go_wp2_with fail
      go_ret
      exact ⟨by rw [q.out]; rfl, HB.out⟩
  · have q : Hid (F = false) := by
      cases hF : F with
      | false => exact Lib.hid rfl
      | true => exact absurd (HF.out.1 hF).1 h1
    clear HF
    go_enter Try.func10, Try.ntmps10
    go_upto_region 1 with fail
    (try rw [hw1])
    clear hw1
    go_wp2_with fail
    go_ret
    exact ⟨by rw [q.out]; rfl, HB.out⟩
end Go.Proofs.Ytkhnnjeinpojkaa
