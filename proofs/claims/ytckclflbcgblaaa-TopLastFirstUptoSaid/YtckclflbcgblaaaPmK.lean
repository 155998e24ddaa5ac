/- Planes: New; what Put tells, plainly. -/
import Derived.Test.YtckclflbcgblaaaPmI
namespace Go.Proofs.Ytckclflbcgblaaa
open Go.RowKit Go.Maps Go.ChangeMaps Go.MapKept
/-- A struct and two temporaries, returned. -/
theorem results_row12 {P : Program} {fn : Func} {p u v : Tmp} {t1 : TypeId} (h : fn.results = #[.cell p t1, .tmp u, .tmp v]) (tmps : Array Value) {w : World} {g1 : Nat} {c1 : Array Value} {d1 : TypeDesc}
    (hp : tmps.getD p undef = .pointer (some ⟨g1, 0, none⟩)) {u1 : Nat} (b1 : Blk w g1 u1 c1)
    (hu1 : P.underlying t1 = some d1) (hd1 : (match d1 with | .struct _ | .array _ _ => true | _ => false) = true) (hi1 : (P.info? t1).map (·.size) = some c1.size) :
    (results fn tmps).run P w = .ok (.tuple #[.agg c1, tmps.getD u undef, tmps.getD v undef]) w := by
  have hp' : tmps[p]?.getD undef = .pointer (some ⟨g1, 0, none⟩) := by simpa using hp
  simp [results, h, hp', asAddr, run_loadVar_row w g1 u1 t1 c1 (0, 0) d1 b1 hu1 hd1 hi1, Result.andThen]
theorem results_row11 {P : Program} {fn : Func} {p u : Tmp} {t1 : TypeId} (h : fn.results = #[.cell p t1, .tmp u]) (tmps : Array Value) {w : World} {g1 : Nat} {c1 : Array Value} {d1 : TypeDesc}
    (hp : tmps.getD p undef = .pointer (some ⟨g1, 0, none⟩)) {u1 : Nat} (b1 : Blk w g1 u1 c1)
    (hu1 : P.underlying t1 = some d1) (hd1 : (match d1 with | .struct _ | .array _ _ => true | _ => false) = true) (hi1 : (P.info? t1).map (·.size) = some c1.size) :
    (results fn tmps).run P w = .ok (.tuple #[.agg c1, tmps.getD u undef]) w := by
  have hp' : tmps[p]?.getD undef = .pointer (some ⟨g1, 0, none⟩) := by simpa using hp
  simp [results, h, hp', asAddr, run_loadVar_row w g1 u1 t1 c1 (0, 0) d1 b1 hu1 hd1 hi1, Result.andThen]
/-- In a region that draws: the one operation that may come up next yields its value, and makes memory. -/
theorem wpAnyH_make {P : Program} {ops : Array Oper} {Q : Exit → Act → World → Prop} {md : Region.Mode} {S : World → Prop} {fuel : Nat} {listed : Array Bool} {a : Act} {w w' : World} {o : Oper} (i : Nat) (v : Value) (hr : Region.ready md ops listed = [i]) (ho : ops[i]? = some o) (hw : Region.wanted o (yielded ops a.tmps) = true)
    (hrun : (execOp a.eval o).run P w = .ok (.value v) w') (hS : S w') (h : wpAnyH P md ops Q S fuel (listed.setIfInBounds i true) (a.put o.dst v) w') : wpAnyH P md ops Q S (fuel + 1) listed a w := by
  refine wpAnyH_ready hr (by simp) (AllReadyH.cons ho (fun K hK => ?_) AllReadyH.nil)
  rw [if_pos hw]
  unfold Oper.wp
  rw [hrun]
  exact hK.out _ _ hS (fun _ => h)
/-- A plane that is told. -/
def RetG (P : List ND → Prop) (en tp : Int) (w : World) (e : Ending) (w' : World) : Prop := ∃ g n c ns, e = .returned (.agg (pgL (some ⟨g, 0, none⟩) n c en tp)) ∧ PgAt w' w'.heap.size (some ⟨g, 0, none⟩) n c ns ∧ P ns ∧ Below w.heap.size w w'
theorem nd0_at (w : World) (B : Nat) : nd0.At w B := ⟨⟨fun _ => ⟨rfl, rfl⟩, Nat.zero_le _, Rd.nil_, (fun x hx => by cases hx)⟩, fun _ => ⟨rfl, rfl⟩, Nat.zero_le _, Rs.nil_, (fun l hl => by cases hl), rfl, rfl, rfl, rfl, (fun l hl => by cases hl)⟩
set_option maxRecDepth 100000 in
theorem pl_new (w : World) : Calls Try.prog 6 #[] w (RetG (fun ns => ns = [nd0]) 0 0 w) := by
  obtain ⟨w1, hw1⟩ : ∃ x, w.alloc (.cells (pgL none 0 0 0 0) 27) = x := ⟨_, rfl⟩
  obtain ⟨k1, b1⟩ := box_plane hw1
  obtain ⟨w2, hw2⟩ : ∃ x, w1.alloc (.cells nd0.cells 49) = x := ⟨_, rfl⟩
  have b2 : Below w1.heap.size w1 w2 := by rw [← hw2]; exact bel_box _ _
  have k2 : Blk w2 w1.heap.size 49 nd0.cells := by rw [← hw2]; exact Blk.new _ _ _
  have kp := k1.below b2 k1.lt
  have SR := row_store kp (pgL (some ⟨w1.heap.size, 0, none⟩) 1 1 0 0) rfl planeT (by simp [pgL, Value.oneCell'])
  obtain ⟨w3, hw3⟩ : ∃ x, w2.setCells w.heap.size 0 (pgL (some ⟨w1.heap.size, 0, none⟩) 1 1 0 0).toList = x := ⟨_, rfl⟩
  have hT : Tch (fun k => k = w.heap.size) w2 w3 := by rw [← hw3]; exact Tch.setCells (S := fun k => k = w.heap.size) rfl _ _ _ (Tch.refl _ _)
  have hs1 := k1.lt
  have k3 := k2.tch hT (by omega)
  have kr : Blk w3 w.heap.size 27 (pgL (some ⟨w1.heap.size, 0, none⟩) 1 1 0 0) := by rw [← hw3]; exact kp.put _ rfl
  have HB : Hid (Below w.heap.size w w3) := by
    show Below _ _ _
    rw [← hw3]; exact below_setCells (b1.trans (b2.mono b1.size)) (Nat.le_refl _) (Nat.le_refl _) _ _
  have HG : Hid (PgAt w3 w3.heap.size (some ⟨w1.heap.size, 0, none⟩) 1 1 [nd0]) := by
    refine ⟨fun e => (by cases e), by decide, ⟨rfl, cells7 [nd0], fun _ => ⟨w1.heap.size, 0, rfl, k3.lt, fun i c hi j v hv => ?_⟩⟩, fun d hd => ?_⟩
    · cases i with
      | zero =>
        injection hi with hi
        subst hi
        rw [Nat.zero_mul, Nat.add_zero, Nat.zero_add, k3.cell, ← Array.getElem?_toList]
        exact hv
      | succ i => cases hi
    · obtain rfl : d = nd0 := by simpa using hd
      exact nd0_at _ _
  have HK := Lib.hid kr
  rw [hw3] at SR
  clear hT k3 kr kp b1 b2 k1 k2 hw3 hs1
  rw [nd0_lit] at hw2
  rw [planeZ] at hw1
  unfold pgL at SR
  go_enter Try.func6, Try.ntmps6
  go_upto_region 1 with fail
  (try rw [hw1])
  clear hw1
  go_wp2_with (refine wpList_storeE SR _ _ rfl rfl rfl rfl ?_)
  refine bodyPost_ret (v := .agg (pgL (some ⟨w1.heap.size, 0, none⟩) 1 1 0 0)) ?_ rfl ⟨w1.heap.size, 1, 1, [nd0], rfl, HG.out, rfl, HB.out⟩
  exact results_cell_row Try.results6 _ _ w.heap.size 27 _ (0, 0) _ rfl HK.out Try.underlying27 rfl planeT
end Go.Proofs.Ytckclflbcgblaaa
