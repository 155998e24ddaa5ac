/- Queues: a spot into an empty one; probes: the first offer. Printed by genLf.py. -/
import Derived.Test.YtckclflbcgblaaaPmT
import Derived.Great.BuildSlice
namespace Go.Proofs.Ytckclflbcgblaaa
open Go.RowKit Go.Maps Go.ChangeMaps Go.MapKept
theorem info_spot : (Try.prog.info? 77).map (fun i => (i.zero, i.size, i.bytes)) = some (some (.agg #[.int .u64 0, .int .u64 0, .int .i64 0]), 3, 24) := by kernel_rfl
theorem spotT : (Try.prog.info? 77).map (·.size) = some 3 := by kernel_rfl
theorem load_spots {w : World} {b o : Nat} {A : Option Addr} {n c : Nat} (h : w.cell? ⟨b, o, none⟩ = some (.slice A n c)) : (Instr.loadAt 53 (.pointer (some ⟨b, o, none⟩))).run Try.prog w = .ok (.slice A n c) w := by
  simp [go_sem, h]
theorem store_spots {w : World} {b o : Nat} {u : Value} {A : Option Addr} {n c : Nat} (h : w.cell? ⟨b, o, none⟩ = some u) (hf : w.frozen? ⟨b, o, none⟩ = false) : (Instr.storeAt 53 (.pointer (some ⟨b, o, none⟩)) (.slice A n c)).run Try.prog w = .ok () (w.setCell ⟨b, o, none⟩ (.slice A n c)) := by
  simp [go_sem, h, hf]
theorem spot_load {w : World} {b : Nat} {dist id slot : Int} (h : Blk w b 77 #[.int .u64 dist, .int .u64 id, .int .i64 slot]) : (Instr.loadAt 77 (.pointer (some ⟨b, 0, none⟩))).run Try.prog w = .ok (.agg #[.int .u64 dist, .int .u64 id, .int .i64 slot]) w := row_load h Try.underlying77 rfl spotT
theorem run_spot (w : World) (dist id slot : Int) : (Instr.buildSlice 53 1 #[(0, .agg #[.int .u64 dist, .int .u64 id, .int .i64 slot])]).run Try.prog w = .ok (.slice (some ⟨w.heap.size, 0, none⟩) 1 1) (w.alloc (.cells #[.int .u64 dist, .int .u64 id, .int .i64 slot] 77)) := by
  obtain ⟨i, hi, hz, hz1, hz2⟩ := info_parts info_spot
  refine Go.run_buildSlice w _ _ 1 _ _ i (.agg #[.int .u64 0, .int .u64 0, .int .i64 0]) Try.underlying53 hi hz (by rw [hz1]; decide) (by rw [hz1]; decide) ?_
  rw [hz1]; kernel_rfl
theorem exec_spot {o : Oper} {a : Act} {dist id slot : Int} {parts : Array (Nat × Operand)} (ho : o.op = .buildSlice 53 1 parts) (hp : (parts.map fun (i, y) => (i, a.eval y)) = #[(0, .agg #[.int .u64 dist, .int .u64 id, .int .i64 slot])]) (w : World) : (execOp a.eval o).run Try.prog w = .ok (.value (.slice (some ⟨w.heap.size, 0, none⟩) 1 1)) (w.alloc (.cells #[.int .u64 dist, .int .u64 id, .int .i64 slot] 77)) := by
  unfold execOp
  simp only [ho, hp, Sem.run_bind, run_spot, Result.andThen_ok]
  rfl
theorem spot_cells (w : World) (dist id slot : Int) : ∀ j u, [Value.int .u64 dist, .int .u64 id, .int .i64 slot][j]? = some u → (w.alloc (.cells #[.int .u64 dist, .int .u64 id, .int .i64 slot] 77)).cell? ((⟨w.heap.size, 0, none⟩ : Addr).add j) = some u := by
  intro j u hu
  rw [Addr.add_lit, (Blk.new w 77 #[.int .u64 dist, .int .u64 id, .int .i64 slot]).cell, Nat.zero_add]
  simpa using hu
section
variable {P : Program} {ops : Array Oper} {Q : Exit → Act → World → Prop} {md : Region.Mode} {S : World → Prop} {fuel : Nat} {listed : Array Bool} {a : Act} {w : World} {o : Oper}
/-- In a region that draws: the one operation that may come up next is an append. -/
theorem wpAnyH_app (i : Nat) (hr : Region.ready md ops listed = [i]) (ho : ops[i]? = some o) (hw : Region.wanted o (yielded ops a.tmps) = true) (s x : Operand) (t : TypeId)
    (hop : o.op = .call { callee := .builtin .append, args := #[s, x], argTypes := #[t, t] })
    (base : Nat) (e : TypeId) (ti : TypeInfo) (z : Value) (size bytes : Nat) (ht : P.underlying t = some (.slice e)) (hi : P.info? e = some ti) (hz : ti.zero = some z)
    (hsize : ti.size = size) (hby : ti.bytes = bytes) (hzs : z.cells.size = size) (hsz : 0 < size)
    (v : Value) (n : Nat) (xs : List Value) (hs : a.eval s = v) (hown : w.ownsRow base e size v n xs)
    (ad : Addr) (m c : Nat) (news : List Value) (hx : a.eval x = .slice (some ad) m c) (hl : news.length = m * size) (hnews : ∀ j u, news[j]? = some u → w.cell? (ad.add j) = some u) (h1 : ∀ u ∈ news, u.oneCell' = true)
    (hm : 0 < m) (h63 : n + m ≤ maxLen) (hbytes : (n + m) * bytes ≤ 140737488355328) (hbase : base ≤ w.heap.size) (H : Nat) (hH : w.heap.size = H)
    (h : ∀ g cap w', w'.ownsRow base e size (.slice (some ⟨g, 0, none⟩) (n + m) cap) (n + m) (xs ++ news) → w.grownBy w' v.ownBlock → (v.ownBlock = some g ∨ g = H) → g < w'.heap.size → S w' ∧ wpAnyH P md ops Q S fuel (listed.setIfInBounds i true) (a.put o.dst (.slice (some ⟨g, 0, none⟩) (n + m) cap)) w') :
    wpAnyH P md ops Q S (fuel + 1) listed a w := by
  refine wpAnyH_ready hr (by simp) (AllReadyH.cons ho (fun K hK => ?_) AllReadyH.nil)
  rw [if_pos hw]
  refine wp_append_lies w s x t hop base e ti z size bytes ht hi hz hsize hby hzs hsz v n xs hs hown ad m c news hx hl hnews h1 hm h63 hbytes hbase H hH fun g cap w' h2 h3 h4 h5 => ?_
  obtain ⟨q1, q2⟩ := h g cap w' h2 h3 h4 h5
  exact hK.out _ _ q1 (fun _ => q2)
end
theorem own_none {w : World} {B e sz n c : Nat} {xs : List Value} (h : w.ownsRow B e sz (.slice none n c) n xs) : c = 0 := by
  rcases h.2 with ⟨q, _⟩ | ⟨g, cap, cur, q, _⟩
  · injection q
  · cases q
set_option maxRecDepth 100000 in
theorem hp_up (hb : Nat) (w : World) : Calls Try.prog 61 #[.pointer (some ⟨hb, 0, none⟩), .int .i64 0] w (fun e w' => e = .returned (.tuple #[]) ∧ w = w') := by
  go_enter Try.func61, Try.ntmps61
  go_wp2_with fail
  go_loopw [1, 4] (fun s1 _ wr => s1 = .int .i64 0 ∧ Hid (w = wr)) (fun _ _ _ => 0)
  case atStart => exact ⟨rfl, rfl⟩
  case round =>
    obtain ⟨rfl, hw⟩ := hrel
    go_wp2_with fail
    go_end0
    exact ⟨rfl, hw.out⟩
set_option maxRecDepth 100000 in
set_option maxHeartbeats 2000000 in
/-- A spot into an empty heap. -/
theorem hp_push {hb T : Nat} {C : Array Value} {dist id slot : Int} (w : World) (hB : Blk w hb T C) (hC : C[0]? = some (.slice none 0 0)) (hcs : 0 < C.size) :
    Calls Try.prog 53 #[.pointer (some ⟨hb, 0, none⟩), .agg #[.int .u64 dist, .int .u64 id, .int .i64 slot]] w (fun e w' => e = .returned (.tuple #[]) ∧ Tch (fun k => k = hb) w w') := by
  obtain ⟨w1, hw1⟩ : ∃ x, w.alloc (.cells #[.int .u64 dist, .int .u64 id, .int .i64 slot] 77) = x := ⟨_, rfl⟩
  have hS : Blk w1 w.heap.size 77 #[.int .u64 dist, .int .u64 id, .int .i64 slot] := by rw [← hw1]; exact Blk.new _ _ _
  have b1 : Below w.heap.size w w1 := by rw [← hw1]; exact bel_box _ _
  have HB := Lib.hid (hB.below b1 hB.lt)
  have HS := Lib.hid hS
  have HC0 := Lib.hid hC
  have HCS := Lib.hid hcs
  have HTB : Hid (Tch (fun k => k = hb) w w1) := Tch.of_below b1
  clear hB hC hcs hS b1
  go_enter Try.func53, Try.ntmps53
  go_upto_region 1 with fail
  (try rw [hw1])
  clear hw1
  refine wp_region_held_drew (S := fun _ => True) (by kernel_rfl) (trivial) (fun hH => ?_)
  refine wpAnyH_take (i := 0) (v := .pointer (some ⟨hb, 0, none⟩)) rfl (by kernel_rfl) (by kernel_rfl) (by kernel_rfl) (fun _ _ _ h => h) (.inl ⟨by rfl, fun _ _ => by kernel_rfl⟩) hH ?_
  (try simp only [List.getElem_toArray, List.getElem_cons_zero, Act.put, List.setIfInBounds_toArray, List.set_cons_zero, List.set_cons_succ])
  refine wpAnyH_take (i := 1) (v := .pointer (some ⟨hb, 0, none⟩)) rfl (by kernel_rfl) (by kernel_rfl) (by kernel_rfl) (fun _ _ _ h => h) (.inl ⟨by rfl, fun _ _ => by kernel_rfl⟩) hH ?_
  (try simp only [List.getElem_toArray, List.getElem_cons_zero, List.getElem_cons_succ, Act.put, List.setIfInBounds_toArray, List.set_cons_zero, List.set_cons_succ])
  refine wpAnyH_take (i := 2) (v := .pointer (some ⟨hb, 0, none⟩)) rfl (by kernel_rfl) (by kernel_rfl) (by kernel_rfl) (fun _ _ _ h => h) (.inl ⟨by rfl, fun _ _ => by kernel_rfl⟩) hH ?_
  (try simp only [List.getElem_toArray, List.getElem_cons_zero, List.getElem_cons_succ, Act.put, List.setIfInBounds_toArray, List.set_cons_zero, List.set_cons_succ])
  refine wpAnyH_take (i := 3) (v := .pointer (some ⟨hb, 0, none⟩)) rfl (by kernel_rfl) (by kernel_rfl) (by kernel_rfl) (fun _ _ _ h => h) (.inl ⟨by rfl, fun _ _ => by kernel_rfl⟩) hH ?_
  (try simp only [List.getElem_toArray, List.getElem_cons_zero, List.getElem_cons_succ, Act.put, List.setIfInBounds_toArray, List.set_cons_zero, List.set_cons_succ])
  have hb1 : w1.drew.cell? ⟨hb, 0, none⟩ = some (.slice none 0 0) := (HB.out.cell 0).trans HC0.out
  have hs1 := spot_load (w := w1.drew) HS.out
  refine wpAnyH_all (rs := [4, 5]) (by kernel_rfl) (by simp) (fun i hi => ?_)
  rcases (by simpa using hi : i = 4 ∨ i = 5) with rfl | rfl
  · refine wpOp_value (.slice none 0 0) (by rfl) (by kernel_rfl) (exec_load (by rfl) (by rfl) (load_spots hb1)) ⟨trivial, ?_⟩
    (try simp only [List.getElem_toArray, List.getElem_cons_zero, List.getElem_cons_succ, Act.put, List.setIfInBounds_toArray, List.set_cons_zero, List.set_cons_succ])
    refine wpAnyH_value 5 (.agg #[.int .u64 dist, .int .u64 id, .int .i64 slot]) (by kernel_rfl) (by rfl) (by kernel_rfl) (exec_load (by rfl) (by rfl) hs1) trivial ?_
    (try simp only [List.getElem_toArray, List.getElem_cons_zero, List.getElem_cons_succ, Act.put, List.setIfInBounds_toArray, List.set_cons_zero, List.set_cons_succ])
    refine wpAnyH_make 6 (.slice (some ⟨w1.drew.heap.size, 0, none⟩) 1 1) (by kernel_rfl) (by rfl) (by kernel_rfl) (exec_spot (dist := dist) (id := id) (slot := slot) (by rfl) (by kernel_rfl) w1.drew) trivial ?_
    (try simp only [List.getElem_toArray, List.getElem_cons_zero, List.getElem_cons_succ, Act.put, List.setIfInBounds_toArray, List.set_cons_zero, List.set_cons_succ])
    obtain ⟨i, hi, hz, hz1, hz2⟩ := info_parts info_spot
    refine wpAnyH_app 7 (by kernel_rfl) (by rfl) (by kernel_rfl) (.tmp 8) (.tmp 10) 53 (by rfl) (w1.drew.alloc (.cells #[.int .u64 dist, .int .u64 id, .int .i64 slot] 77)).heap.size 77 i (.agg #[.int .u64 0, .int .u64 0, .int .i64 0]) 3 24 Try.underlying53 hi hz hz1 hz2 rfl (by decide) (.slice none 0 0) 0 [] (by rfl) (World.ownsRow_nil _ _ _ _) ⟨w1.drew.heap.size, 0, none⟩ 1 1 [.int .u64 dist, .int .u64 id, .int .i64 slot] (by rfl) rfl (spot_cells w1.drew dist id slot) (by intro u hu; simp at hu; rcases hu with rfl | rfl | rfl <;> rfl) (by decide) (by unfold maxLen; omega) (by decide) (Nat.le_refl _) _ rfl ?_
    intro g cap Z2 hown hgr hat hlt
    refine ⟨trivial, ?_⟩
    (try simp only [List.getElem_toArray, List.getElem_cons_zero, List.getElem_cons_succ, Act.put, List.setIfInBounds_toArray, List.set_cons_zero, List.set_cons_succ])
    have h2 : Tch (fun k => k = hb) w1 Z2 := (((Tch.refl (fun k => k = hb) w1).drewN 1).alloc (.cells #[.int .u64 dist, .int .u64 id, .int .i64 slot] 77)).trans (S' := fun _ => False) ⟨hgr.os, hgr.tape, hgr.output, hgr.size, fun k hk _ => hgr.block k hk (by intro e; cases e)⟩ (fun k q => q.elim)
    have hBZ : Blk Z2 hb T C := (hgr.block hb (Nat.lt_of_lt_of_le HB.out.lt (((Tch.refl (fun k => k = hb) w1).drewN 1).alloc (.cells #[.int .u64 dist, .int .u64 id, .int .i64 slot] 77)).size) (by intro e; cases e)).trans (((bel_box w1.drew (.cells #[.int .u64 dist, .int .u64 id, .int .i64 slot] 77)).block hb HB.out.lt).trans HB.out)
    have SR := store_spots (A := some ⟨g, 0, none⟩) (n := 1) (c := cap) ((hBZ.cell 0).trans HC0.out) (hBZ.frozen 0)
    have HT := Lib.hid (h2.setCell (S := fun k => k = hb) rfl 0 (.slice (some ⟨g, 0, none⟩) 1 cap))
    obtain ⟨V, hV⟩ : ∃ V, Z2.setCell ⟨hb, 0, none⟩ (.slice (some ⟨g, 0, none⟩) 1 cap) = V := ⟨_, rfl⟩
    have hBV : Blk V hb T (C.setIfInBounds 0 (.slice (some ⟨g, 0, none⟩) 1 cap)) := by rw [← hV]; exact hBZ.set_ 0 _
    have c0 : V.cell? ⟨hb, 0, none⟩ = some (.slice (some ⟨g, 0, none⟩) 1 cap) := by
      rw [hBV.cell, Array.getElem?_setIfInBounds_self_of_lt (HCS.out)]
    rw [hV] at SR HT
    refine wpAnyH_take (i := 8) (v := .pointer (some ⟨hb, 0, none⟩)) rfl (by kernel_rfl) (by kernel_rfl) (by kernel_rfl) (fun _ _ _ h => h) (.inl ⟨by rfl, fun _ _ => by kernel_rfl⟩) trivial ?_
    (try simp only [List.getElem_toArray, List.getElem_cons_zero, List.getElem_cons_succ, Act.put, List.setIfInBounds_toArray, List.set_cons_zero, List.set_cons_succ])
    refine wpAnyH_take (i := 9) (v := .pointer (some ⟨hb, 0, none⟩)) rfl (by kernel_rfl) (by kernel_rfl) (by kernel_rfl) (fun _ _ _ h => h) (.inl ⟨by rfl, fun _ _ => by kernel_rfl⟩) trivial ?_
    (try simp only [List.getElem_toArray, List.getElem_cons_zero, List.getElem_cons_succ, Act.put, List.setIfInBounds_toArray, List.set_cons_zero, List.set_cons_succ])
    refine wpAnyH_store 10 _ _ _ (by kernel_rfl) (by rfl) (by kernel_rfl) (by rfl) (by rfl) (by rfl) SR trivial ?_
    (try simp only [List.getElem_toArray, List.getElem_cons_zero, List.getElem_cons_succ, Act.put])
    refine wpAnyH_done (by kernel_rfl) ?_ _
    clear h2 hBZ SR hV hBV hown hgr hat hlt hi hz hz1 hz2
    have HUP := Lib.hid (hp_up hb V)
    go_wp2_with (go_at_call 61; (with_reducible refine HUP.out.mono ?_); rintro e V2 ⟨rfl, rfl⟩)
    go_end0
    exact ⟨rfl, HTB.out.trans HT.out (fun k q => .inl q)⟩
  · refine wpOp_value (.agg #[.int .u64 dist, .int .u64 id, .int .i64 slot]) (by rfl) (by kernel_rfl) (exec_load (by rfl) (by rfl) hs1) ⟨trivial, ?_⟩
    (try simp only [List.getElem_toArray, List.getElem_cons_zero, List.getElem_cons_succ, Act.put, List.setIfInBounds_toArray, List.set_cons_zero, List.set_cons_succ])
    refine wpAnyH_all (rs := [4, 6]) (by kernel_rfl) (by simp) (fun i hi => ?_)
    rcases (by simpa using hi : i = 4 ∨ i = 6) with rfl | rfl
    · refine wpOp_value (.slice none 0 0) (by rfl) (by kernel_rfl) (exec_load (by rfl) (by rfl) (load_spots hb1)) ⟨trivial, ?_⟩
      (try simp only [List.getElem_toArray, List.getElem_cons_zero, List.getElem_cons_succ, Act.put, List.setIfInBounds_toArray, List.set_cons_zero, List.set_cons_succ])
      refine wpAnyH_make 6 (.slice (some ⟨w1.drew.heap.size, 0, none⟩) 1 1) (by kernel_rfl) (by rfl) (by kernel_rfl) (exec_spot (dist := dist) (id := id) (slot := slot) (by rfl) (by kernel_rfl) w1.drew) trivial ?_
      (try simp only [List.getElem_toArray, List.getElem_cons_zero, List.getElem_cons_succ, Act.put, List.setIfInBounds_toArray, List.set_cons_zero, List.set_cons_succ])
      obtain ⟨i, hi, hz, hz1, hz2⟩ := info_parts info_spot
      refine wpAnyH_app 7 (by kernel_rfl) (by rfl) (by kernel_rfl) (.tmp 8) (.tmp 10) 53 (by rfl) (w1.drew.alloc (.cells #[.int .u64 dist, .int .u64 id, .int .i64 slot] 77)).heap.size 77 i (.agg #[.int .u64 0, .int .u64 0, .int .i64 0]) 3 24 Try.underlying53 hi hz hz1 hz2 rfl (by decide) (.slice none 0 0) 0 [] (by rfl) (World.ownsRow_nil _ _ _ _) ⟨w1.drew.heap.size, 0, none⟩ 1 1 [.int .u64 dist, .int .u64 id, .int .i64 slot] (by rfl) rfl (spot_cells w1.drew dist id slot) (by intro u hu; simp at hu; rcases hu with rfl | rfl | rfl <;> rfl) (by decide) (by unfold maxLen; omega) (by decide) (Nat.le_refl _) _ rfl ?_
      intro g cap Z2 hown hgr hat hlt
      refine ⟨trivial, ?_⟩
      (try simp only [List.getElem_toArray, List.getElem_cons_zero, List.getElem_cons_succ, Act.put, List.setIfInBounds_toArray, List.set_cons_zero, List.set_cons_succ])
      have h2 : Tch (fun k => k = hb) w1 Z2 := (((Tch.refl (fun k => k = hb) w1).drewN 1).alloc (.cells #[.int .u64 dist, .int .u64 id, .int .i64 slot] 77)).trans (S' := fun _ => False) ⟨hgr.os, hgr.tape, hgr.output, hgr.size, fun k hk _ => hgr.block k hk (by intro e; cases e)⟩ (fun k q => q.elim)
      have hBZ : Blk Z2 hb T C := (hgr.block hb (Nat.lt_of_lt_of_le HB.out.lt (((Tch.refl (fun k => k = hb) w1).drewN 1).alloc (.cells #[.int .u64 dist, .int .u64 id, .int .i64 slot] 77)).size) (by intro e; cases e)).trans (((bel_box w1.drew (.cells #[.int .u64 dist, .int .u64 id, .int .i64 slot] 77)).block hb HB.out.lt).trans HB.out)
      have SR := store_spots (A := some ⟨g, 0, none⟩) (n := 1) (c := cap) ((hBZ.cell 0).trans HC0.out) (hBZ.frozen 0)
      have HT := Lib.hid (h2.setCell (S := fun k => k = hb) rfl 0 (.slice (some ⟨g, 0, none⟩) 1 cap))
      obtain ⟨V, hV⟩ : ∃ V, Z2.setCell ⟨hb, 0, none⟩ (.slice (some ⟨g, 0, none⟩) 1 cap) = V := ⟨_, rfl⟩
      have hBV : Blk V hb T (C.setIfInBounds 0 (.slice (some ⟨g, 0, none⟩) 1 cap)) := by rw [← hV]; exact hBZ.set_ 0 _
      have c0 : V.cell? ⟨hb, 0, none⟩ = some (.slice (some ⟨g, 0, none⟩) 1 cap) := by
        rw [hBV.cell, Array.getElem?_setIfInBounds_self_of_lt (HCS.out)]
      rw [hV] at SR HT
      refine wpAnyH_take (i := 8) (v := .pointer (some ⟨hb, 0, none⟩)) rfl (by kernel_rfl) (by kernel_rfl) (by kernel_rfl) (fun _ _ _ h => h) (.inl ⟨by rfl, fun _ _ => by kernel_rfl⟩) trivial ?_
      (try simp only [List.getElem_toArray, List.getElem_cons_zero, List.getElem_cons_succ, Act.put, List.setIfInBounds_toArray, List.set_cons_zero, List.set_cons_succ])
      refine wpAnyH_take (i := 9) (v := .pointer (some ⟨hb, 0, none⟩)) rfl (by kernel_rfl) (by kernel_rfl) (by kernel_rfl) (fun _ _ _ h => h) (.inl ⟨by rfl, fun _ _ => by kernel_rfl⟩) trivial ?_
      (try simp only [List.getElem_toArray, List.getElem_cons_zero, List.getElem_cons_succ, Act.put, List.setIfInBounds_toArray, List.set_cons_zero, List.set_cons_succ])
      refine wpAnyH_store 10 _ _ _ (by kernel_rfl) (by rfl) (by kernel_rfl) (by rfl) (by rfl) (by rfl) SR trivial ?_
      (try simp only [List.getElem_toArray, List.getElem_cons_zero, List.getElem_cons_succ, Act.put])
      refine wpAnyH_done (by kernel_rfl) ?_ _
      clear h2 hBZ SR hV hBV hown hgr hat hlt hi hz hz1 hz2
      have HUP := Lib.hid (hp_up hb V)
      go_wp2_with (go_at_call 61; (with_reducible refine HUP.out.mono ?_); rintro e V2 ⟨rfl, rfl⟩)
      go_end0
      exact ⟨rfl, HTB.out.trans HT.out (fun k q => .inl q)⟩
    · refine wpOp_value (.slice (some ⟨w1.drew.heap.size, 0, none⟩) 1 1) (by rfl) (by kernel_rfl) (exec_spot (dist := dist) (id := id) (slot := slot) (by rfl) (by kernel_rfl) w1.drew) ⟨trivial, ?_⟩
      (try simp only [List.getElem_toArray, List.getElem_cons_zero, List.getElem_cons_succ, Act.put, List.setIfInBounds_toArray, List.set_cons_zero, List.set_cons_succ])
      refine wpAnyH_value 4 (.slice none 0 0) (by kernel_rfl) (by rfl) (by kernel_rfl) (exec_load (by rfl) (by rfl) (load_spots (((bel_box w1.drew _).cell (p := ⟨hb, 0, none⟩) HB.out.lt).trans hb1))) trivial ?_
      (try simp only [List.getElem_toArray, List.getElem_cons_zero, List.getElem_cons_succ, Act.put, List.setIfInBounds_toArray, List.set_cons_zero, List.set_cons_succ])
      obtain ⟨i, hi, hz, hz1, hz2⟩ := info_parts info_spot
      refine wpAnyH_app 7 (by kernel_rfl) (by rfl) (by kernel_rfl) (.tmp 8) (.tmp 10) 53 (by rfl) (w1.drew.alloc (.cells #[.int .u64 dist, .int .u64 id, .int .i64 slot] 77)).heap.size 77 i (.agg #[.int .u64 0, .int .u64 0, .int .i64 0]) 3 24 Try.underlying53 hi hz hz1 hz2 rfl (by decide) (.slice none 0 0) 0 [] (by rfl) (World.ownsRow_nil _ _ _ _) ⟨w1.drew.heap.size, 0, none⟩ 1 1 [.int .u64 dist, .int .u64 id, .int .i64 slot] (by rfl) rfl (spot_cells w1.drew dist id slot) (by intro u hu; simp at hu; rcases hu with rfl | rfl | rfl <;> rfl) (by decide) (by unfold maxLen; omega) (by decide) (Nat.le_refl _) _ rfl ?_
      intro g cap Z2 hown hgr hat hlt
      refine ⟨trivial, ?_⟩
      (try simp only [List.getElem_toArray, List.getElem_cons_zero, List.getElem_cons_succ, Act.put, List.setIfInBounds_toArray, List.set_cons_zero, List.set_cons_succ])
      have h2 : Tch (fun k => k = hb) w1 Z2 := (((Tch.refl (fun k => k = hb) w1).drewN 1).alloc (.cells #[.int .u64 dist, .int .u64 id, .int .i64 slot] 77)).trans (S' := fun _ => False) ⟨hgr.os, hgr.tape, hgr.output, hgr.size, fun k hk _ => hgr.block k hk (by intro e; cases e)⟩ (fun k q => q.elim)
      have hBZ : Blk Z2 hb T C := (hgr.block hb (Nat.lt_of_lt_of_le HB.out.lt (((Tch.refl (fun k => k = hb) w1).drewN 1).alloc (.cells #[.int .u64 dist, .int .u64 id, .int .i64 slot] 77)).size) (by intro e; cases e)).trans (((bel_box w1.drew (.cells #[.int .u64 dist, .int .u64 id, .int .i64 slot] 77)).block hb HB.out.lt).trans HB.out)
      have SR := store_spots (A := some ⟨g, 0, none⟩) (n := 1) (c := cap) ((hBZ.cell 0).trans HC0.out) (hBZ.frozen 0)
      have HT := Lib.hid (h2.setCell (S := fun k => k = hb) rfl 0 (.slice (some ⟨g, 0, none⟩) 1 cap))
      obtain ⟨V, hV⟩ : ∃ V, Z2.setCell ⟨hb, 0, none⟩ (.slice (some ⟨g, 0, none⟩) 1 cap) = V := ⟨_, rfl⟩
      have hBV : Blk V hb T (C.setIfInBounds 0 (.slice (some ⟨g, 0, none⟩) 1 cap)) := by rw [← hV]; exact hBZ.set_ 0 _
      have c0 : V.cell? ⟨hb, 0, none⟩ = some (.slice (some ⟨g, 0, none⟩) 1 cap) := by
        rw [hBV.cell, Array.getElem?_setIfInBounds_self_of_lt (HCS.out)]
      rw [hV] at SR HT
      refine wpAnyH_take (i := 8) (v := .pointer (some ⟨hb, 0, none⟩)) rfl (by kernel_rfl) (by kernel_rfl) (by kernel_rfl) (fun _ _ _ h => h) (.inl ⟨by rfl, fun _ _ => by kernel_rfl⟩) trivial ?_
      (try simp only [List.getElem_toArray, List.getElem_cons_zero, List.getElem_cons_succ, Act.put, List.setIfInBounds_toArray, List.set_cons_zero, List.set_cons_succ])
      refine wpAnyH_take (i := 9) (v := .pointer (some ⟨hb, 0, none⟩)) rfl (by kernel_rfl) (by kernel_rfl) (by kernel_rfl) (fun _ _ _ h => h) (.inl ⟨by rfl, fun _ _ => by kernel_rfl⟩) trivial ?_
      (try simp only [List.getElem_toArray, List.getElem_cons_zero, List.getElem_cons_succ, Act.put, List.setIfInBounds_toArray, List.set_cons_zero, List.set_cons_succ])
      refine wpAnyH_store 10 _ _ _ (by kernel_rfl) (by rfl) (by kernel_rfl) (by rfl) (by rfl) (by rfl) SR trivial ?_
      (try simp only [List.getElem_toArray, List.getElem_cons_zero, List.getElem_cons_succ, Act.put])
      refine wpAnyH_done (by kernel_rfl) ?_ _
      clear h2 hBZ SR hV hBV hown hgr hat hlt hi hz hz1 hz2
      have HUP := Lib.hid (hp_up hb V)
      go_wp2_with (go_at_call 61; (with_reducible refine HUP.out.mono ?_); rintro e V2 ⟨rfl, rfl⟩)
      go_end0
      exact ⟨rfl, HTB.out.trans HT.out (fun k q => .inl q)⟩
set_option maxRecDepth 100000 in
set_option maxHeartbeats 2000000 in
theorem q_push {qb T : Nat} {C : Array Value} {dist id slot : Int} (w : World) (hB : Blk w qb T C) (hC : C[0]? = some (.slice none 0 0)) (hcs : 0 < C.size) :
    Calls Try.prog 35 #[.pointer (some ⟨qb, 0, none⟩), .agg #[.int .u64 dist, .int .u64 id, .int .i64 slot]] w (fun e w' => e = .returned (.tuple #[]) ∧ Tch (fun k => k = qb) w w') := by
  obtain ⟨w1, hw1⟩ : ∃ x, w.alloc (.cells #[.int .u64 dist, .int .u64 id, .int .i64 slot] 77) = x := ⟨_, rfl⟩
  have hS : Blk w1 w.heap.size 77 #[.int .u64 dist, .int .u64 id, .int .i64 slot] := by rw [← hw1]; exact Blk.new _ _ _
  have b1 : Below w.heap.size w w1 := by rw [← hw1]; exact bel_box _ _
  have HLT := Lib.hid hB.lt
  have HB : Hid (Blk w1.drew qb T C) := by have q := hB.below b1 hB.lt; exact q
  have HS := Lib.hid hS
  have HC0 := Lib.hid hC
  have HCS := Lib.hid hcs
  have HTB : Hid (Tch (fun k => k = qb) w w1) := Tch.of_below b1
  clear hB hC hcs hS b1
  go_enter Try.func35, Try.ntmps35
  go_upto_region 1 with fail
  (try rw [hw1])
  clear hw1
  go_upto_region 2 with fail
  refine wp_region_held_drew (S := fun w' => Blk w' w.heap.size 77 #[.int .u64 dist, .int .u64 id, .int .i64 slot]) (by kernel_rfl) (HS.out) (fun hH => ?_)
  refine wpAnyH_take (i := 0) (v := .pointer (some ⟨qb, 0, none⟩)) rfl (by kernel_rfl) (by kernel_rfl) (by kernel_rfl) (fun _ _ _ h => h) (.inl ⟨by rfl, fun _ _ => by kernel_rfl⟩) hH ?_
  (try simp only [List.getElem_toArray, List.getElem_cons_zero, Act.put, List.setIfInBounds_toArray, List.set_cons_zero, List.set_cons_succ])
  refine wpAnyH_take (i := 1) (v := .pointer (some ⟨qb, 0, none⟩)) rfl (by kernel_rfl) (by kernel_rfl) (by kernel_rfl) (fun _ _ _ h => h) (.inl ⟨by rfl, fun _ _ => by kernel_rfl⟩) hH ?_
  (try simp only [List.getElem_toArray, List.getElem_cons_zero, List.getElem_cons_succ, Act.put, List.setIfInBounds_toArray, List.set_cons_zero, List.set_cons_succ])
  refine wpAnyH_take (i := 2) (v := .pointer (some ⟨qb, 0, none⟩)) rfl (by kernel_rfl) (by kernel_rfl) (by kernel_rfl) (fun _ _ _ h => h) (.inl ⟨by rfl, fun _ _ => by kernel_rfl⟩) hH ?_
  (try simp only [List.getElem_toArray, List.getElem_cons_zero, List.getElem_cons_succ, Act.put, List.setIfInBounds_toArray, List.set_cons_zero, List.set_cons_succ])
  refine wpAnyH_take (i := 3) (v := .agg #[.int .u64 dist, .int .u64 id, .int .i64 slot]) rfl (by kernel_rfl) (by kernel_rfl) (by kernel_rfl) (fun _ _ _ h => h) (yieldsIf_loadP (by rfl) _ rfl rfl (fun _ q => spot_load q)) hH ?_
  (try simp only [List.getElem_toArray, List.getElem_cons_zero, List.getElem_cons_succ, Act.put, List.setIfInBounds_toArray, List.set_cons_zero, List.set_cons_succ])
  refine wpAnyH_call 4 53 #[.pointer (some ⟨qb, 0, none⟩), .agg #[.int .u64 dist, .int .u64 id, .int .i64 slot]] _ (by kernel_rfl) (by rfl) (by kernel_rfl) (by kernel_rfl) (hp_push (T := T) (C := C) _ HB.out HC0.out HCS.out) ?_
  rintro e Z ⟨rfl, hz⟩
  refine ⟨_, rfl, HS.out.tch ((((Tch.refl (fun k => k = qb) w1).drewN 1).trans hz (fun k q => .inl q))) (by have := HLT.out; omega), ?_⟩
  have HZ := Lib.hid (((Tch.refl (fun k => k = qb) w1).drewN 1).trans hz (fun k q => .inl q))
  clear hz
  (try simp only [List.getElem_toArray, List.getElem_cons_zero, List.getElem_cons_succ, Act.put, List.setIfInBounds_toArray, List.set_cons_zero, List.set_cons_succ])
  refine wpAnyH_done (by kernel_rfl) ?_ _
  go_wp2_with fail
  go_end0
  exact ⟨rfl, HTB.out.trans HZ.out (fun k q => .inl q)⟩
set_option maxRecDepth 100000 in
set_option maxHeartbeats 2000000 in
theorem b_full {qb T : Nat} {C : Array Value} (w : World) (hB : Blk w qb T C) (hC : C[0]? = some (.slice none 0 0)) (hC2 : C[2]? = some (.int .i64 1)) :
    Calls Try.prog 54 #[.pointer (some ⟨qb, 0, none⟩)] w (RetB false w) := by
  have HB := Lib.hid hB
  have HC0 := Lib.hid hC
  have HC2 := Lib.hid hC2
  clear hB hC hC2
  go_enter Try.func54, Try.ntmps54
  go_upto_region 1 with fail
  refine wp_region_held_drew (S := fun w' => Below w.heap.size w w') (by kernel_rfl) (below_drewN (Below.refl _ w) 1) (fun hH => ?_)
  refine wpAnyH_take (i := 0) (v := .pointer (some ⟨qb, 0, none⟩)) rfl (by kernel_rfl) (by kernel_rfl) (by kernel_rfl) (fun _ _ _ h => h) (.inl ⟨by rfl, fun _ _ => by kernel_rfl⟩) hH ?_
  (try simp only [List.getElem_toArray, List.getElem_cons_zero, Act.put, List.setIfInBounds_toArray, List.set_cons_zero, List.set_cons_succ])
  refine wpAnyH_take (i := 1) (v := .bool false) rfl (by kernel_rfl) (by kernel_rfl) (by kernel_rfl) (fun _ _ _ h => h) (.inl ⟨by rfl, fun _ _ => by kernel_rfl⟩) hH ?_
  (try simp only [List.getElem_toArray, List.getElem_cons_zero, List.getElem_cons_succ, Act.put, List.setIfInBounds_toArray, List.set_cons_zero, List.set_cons_succ])
  refine wpAnyH_take (i := 2) (v := .bool false) rfl (by kernel_rfl) (by kernel_rfl) (by kernel_rfl) (fun _ _ _ h => h) (.inl ⟨by rfl, fun _ _ => by kernel_rfl⟩) hH ?_
  (try simp only [List.getElem_toArray, List.getElem_cons_zero, List.getElem_cons_succ, Act.put, List.setIfInBounds_toArray, List.set_cons_zero, List.set_cons_succ])
  refine wpAnyH_take (i := 3) (v := .pointer (some ⟨qb, 0, none⟩)) rfl (by kernel_rfl) (by kernel_rfl) (by kernel_rfl) (fun _ _ _ h => h) (.inl ⟨by rfl, fun _ _ => by kernel_rfl⟩) hH ?_
  (try simp only [List.getElem_toArray, List.getElem_cons_zero, List.getElem_cons_succ, Act.put, List.setIfInBounds_toArray, List.set_cons_zero, List.set_cons_succ])
  refine wpAnyH_take (i := 4) (v := .pointer (some ⟨qb, 0, none⟩)) rfl (by kernel_rfl) (by kernel_rfl) (by kernel_rfl) (fun _ _ _ h => h) (.inl ⟨by rfl, fun _ _ => by kernel_rfl⟩) hH ?_
  (try simp only [List.getElem_toArray, List.getElem_cons_zero, List.getElem_cons_succ, Act.put, List.setIfInBounds_toArray, List.set_cons_zero, List.set_cons_succ])
  refine wpAnyH_take (i := 5) (v := .pointer (some ⟨qb, 0, none⟩)) rfl (by kernel_rfl) (by kernel_rfl) (by kernel_rfl) (fun _ _ _ h => h) (.inl ⟨by rfl, fun _ _ => by kernel_rfl⟩) hH ?_
  (try simp only [List.getElem_toArray, List.getElem_cons_zero, List.getElem_cons_succ, Act.put, List.setIfInBounds_toArray, List.set_cons_zero, List.set_cons_succ])
  refine wpAnyH_take (i := 6) (v := .pointer (some ⟨qb, 0, none⟩)) rfl (by kernel_rfl) (by kernel_rfl) (by kernel_rfl) (fun _ _ _ h => h) (.inl ⟨by rfl, fun _ _ => by kernel_rfl⟩) hH ?_
  (try simp only [List.getElem_toArray, List.getElem_cons_zero, List.getElem_cons_succ, Act.put, List.setIfInBounds_toArray, List.set_cons_zero, List.set_cons_succ])
  refine wpAnyH_take (i := 7) (v := .slice none 0 0) rfl (by kernel_rfl) (by kernel_rfl) (by kernel_rfl) (fun _ _ _ h => h) (yieldsIf_loadP (by rfl) _ rfl rfl (fun _ q => load_spots (((HB.out.below q HB.out.lt).cell 0).trans HC0.out))) hH ?_
  (try simp only [List.getElem_toArray, List.getElem_cons_zero, List.getElem_cons_succ, Act.put, List.setIfInBounds_toArray, List.set_cons_zero, List.set_cons_succ])
  refine wpAnyH_take (i := 8) (v := .int .i64 0) rfl (by kernel_rfl) (by kernel_rfl) (by kernel_rfl) (fun _ _ _ h => h) (.inl ⟨by rfl, fun _ _ => by kernel_rfl⟩) hH ?_
  (try simp only [List.getElem_toArray, List.getElem_cons_zero, List.getElem_cons_succ, Act.put, List.setIfInBounds_toArray, List.set_cons_zero, List.set_cons_succ])
  refine wpAnyH_take (i := 9) (v := .pointer (some ⟨qb, 0, none⟩)) rfl (by kernel_rfl) (by kernel_rfl) (by kernel_rfl) (fun _ _ _ h => h) (.inl ⟨by rfl, fun _ _ => by kernel_rfl⟩) hH ?_
  (try simp only [List.getElem_toArray, List.getElem_cons_zero, List.getElem_cons_succ, Act.put, List.setIfInBounds_toArray, List.set_cons_zero, List.set_cons_succ])
  refine wpAnyH_take (i := 10) (v := .pointer (some ⟨qb, 0, none⟩)) rfl (by kernel_rfl) (by kernel_rfl) (by kernel_rfl) (fun _ _ _ h => h) (.inl ⟨by rfl, fun _ _ => by kernel_rfl⟩) hH ?_
  (try simp only [List.getElem_toArray, List.getElem_cons_zero, List.getElem_cons_succ, Act.put, List.setIfInBounds_toArray, List.set_cons_zero, List.set_cons_succ])
  refine wpAnyH_take (i := 11) (v := .pointer (some ⟨qb, 2, none⟩)) rfl (by kernel_rfl) (by kernel_rfl) (by kernel_rfl) (fun _ _ _ h => h) (.inl ⟨by rfl, fun _ _ => by kernel_rfl⟩) hH ?_
  (try simp only [List.getElem_toArray, List.getElem_cons_zero, List.getElem_cons_succ, Act.put, List.setIfInBounds_toArray, List.set_cons_zero, List.set_cons_succ])
  refine wpAnyH_take (i := 12) (v := .int .i64 1) rfl (by kernel_rfl) (by kernel_rfl) (by kernel_rfl) (fun _ _ _ h => h) (yieldsIf_loadP (by rfl) _ rfl rfl (fun _ q => load_i64 (((HB.out.below q HB.out.lt).cell 2).trans HC2.out))) hH ?_
  (try simp only [List.getElem_toArray, List.getElem_cons_zero, List.getElem_cons_succ, Act.put, List.setIfInBounds_toArray, List.set_cons_zero, List.set_cons_succ])
  refine wpAnyH_take (i := 13) (v := .bool false) rfl (by kernel_rfl) (by kernel_rfl) (by kernel_rfl) (fun _ _ _ h => h) (yieldsIf_geqR (by rfl) _ _ rfl rfl rfl (by decide)) hH ?_
  (try simp only [List.getElem_toArray, List.getElem_cons_zero, List.getElem_cons_succ, Act.put, List.setIfInBounds_toArray, List.set_cons_zero, List.set_cons_succ])
  refine wpAnyH_take (i := 14) (v := .bool false) rfl (by kernel_rfl) (by kernel_rfl) (by kernel_rfl) (fun _ _ _ h => h) (.inl ⟨by rfl, fun _ _ => by kernel_rfl⟩) hH ?_
  (try simp only [List.getElem_toArray, List.getElem_cons_zero, List.getElem_cons_succ, Act.put, List.setIfInBounds_toArray, List.set_cons_zero, List.set_cons_succ])
  refine wpAnyH_take (i := 15) (v := .bool false) rfl (by kernel_rfl) (by kernel_rfl) (by kernel_rfl) (fun _ _ _ h => h) (.inl ⟨by rfl, fun _ _ => by kernel_rfl⟩) hH ?_
  (try simp only [List.getElem_toArray, List.getElem_cons_zero, List.getElem_cons_succ, Act.put, List.setIfInBounds_toArray, List.set_cons_zero, List.set_cons_succ])
  refine wpAnyH_done (by kernel_rfl) ?_ _
  have HZ := Lib.hid hH
  clear hH
  go_wp2_with fail
  go_ret
  exact ⟨rfl, HZ.out⟩
set_option maxRecDepth 100000 in
set_option maxHeartbeats 2000000 in
theorem b_offer {qb T : Nat} {C : Array Value} {dist id slot : Int} (w : World) (hB : Blk w qb T C) (hC : C[0]? = some (.slice none 0 0)) (hC2 : C[2]? = some (.int .i64 1)) (hcs : 0 < C.size) :
    Calls Try.prog 37 #[.pointer (some ⟨qb, 0, none⟩), .agg #[.int .u64 dist, .int .u64 id, .int .i64 slot]] w (fun e w' => e = .returned (.bool true) ∧ Tch (fun k => k = qb) w w') := by
  obtain ⟨w1, hw1⟩ : ∃ x, w.alloc (.cells #[.int .u64 dist, .int .u64 id, .int .i64 slot] 77) = x := ⟨_, rfl⟩
  have hS : Blk w1 w.heap.size 77 #[.int .u64 dist, .int .u64 id, .int .i64 slot] := by rw [← hw1]; exact Blk.new _ _ _
  have b1 : Below w.heap.size w w1 := by rw [← hw1]; exact bel_box _ _
  have HLT := Lib.hid hB.lt
  have hB1 := hB.below b1 hB.lt
  have HFU := Lib.hid (b_full w1 hB1 hC hC2)
  have z2 : w1.cell? ⟨qb, 2, none⟩ = some (.int .i64 1) := (hB1.cell 2).trans hC2
  have HB1 := Lib.hid hB1
  have HS1 := Lib.hid hS
  have HC0 := Lib.hid hC
  have HCS := Lib.hid hcs
  have HTB : Hid (Tch (fun k => k = qb) w w1) := Tch.of_below b1
  clear hB hC hC2 hcs hS b1 hB1
  go_enter Try.func37, Try.ntmps37
  go_upto_region 1 with fail
  (try rw [hw1])
  clear hw1
  obtain ⟨w0, hw0⟩ : ∃ q, q = w1 := ⟨_, rfl⟩
  go_upto_region 8 with (go_at_call 54; (with_reducible refine HFU.out.mono ?_); rintro e w2 ⟨rfl, b2⟩; have hb2 := HB1.out.below b2 HB1.out.lt; have hs2 := HS1.out.below b2 HS1.out.lt; have HB : Hid (Blk w2.drew qb T C) := hb2; have HS : Hid (Blk w2 w.heap.size 77 #[.int .u64 dist, .int .u64 id, .int .i64 slot]) := hs2; clear hb2 hs2; have HT2 := Lib.hid (HTB.out.trans (Tch.of_below (S := fun k => k = qb) b2) (fun k q => .inl q)); clear b2)
  clear HB1 HS1 HTB HFU z2 hw0
  obtain ⟨w1, hw1⟩ : ∃ q, w2 = q := ⟨_, rfl⟩
  rw [hw1] at HB HS HT2 ⊢
  refine wp_region_held_drew (S := fun w' => Blk w' w.heap.size 77 #[.int .u64 dist, .int .u64 id, .int .i64 slot]) (by kernel_rfl) (HS.out) (fun hH => ?_)
  refine wpAnyH_take (i := 0) (v := .pointer (some ⟨qb, 0, none⟩)) rfl (by kernel_rfl) (by kernel_rfl) (by kernel_rfl) (fun _ _ _ h => h) (.inl ⟨by rfl, fun _ _ => by kernel_rfl⟩) hH ?_
  (try simp only [List.getElem_toArray, List.getElem_cons_zero, Act.put, List.setIfInBounds_toArray, List.set_cons_zero, List.set_cons_succ])
  refine wpAnyH_take (i := 1) (v := .pointer (some ⟨qb, 0, none⟩)) rfl (by kernel_rfl) (by kernel_rfl) (by kernel_rfl) (fun _ _ _ h => h) (.inl ⟨by rfl, fun _ _ => by kernel_rfl⟩) hH ?_
  (try simp only [List.getElem_toArray, List.getElem_cons_zero, List.getElem_cons_succ, Act.put, List.setIfInBounds_toArray, List.set_cons_zero, List.set_cons_succ])
  refine wpAnyH_take (i := 2) (v := .pointer (some ⟨qb, 0, none⟩)) rfl (by kernel_rfl) (by kernel_rfl) (by kernel_rfl) (fun _ _ _ h => h) (.inl ⟨by rfl, fun _ _ => by kernel_rfl⟩) hH ?_
  (try simp only [List.getElem_toArray, List.getElem_cons_zero, List.getElem_cons_succ, Act.put, List.setIfInBounds_toArray, List.set_cons_zero, List.set_cons_succ])
  refine wpAnyH_take (i := 3) (v := .agg #[.int .u64 dist, .int .u64 id, .int .i64 slot]) rfl (by kernel_rfl) (by kernel_rfl) (by kernel_rfl) (fun _ _ _ h => h) (yieldsIf_loadP (by rfl) _ rfl rfl (fun _ q => spot_load q)) hH ?_
  (try simp only [List.getElem_toArray, List.getElem_cons_zero, List.getElem_cons_succ, Act.put, List.setIfInBounds_toArray, List.set_cons_zero, List.set_cons_succ])
  refine wpAnyH_call 4 53 #[.pointer (some ⟨qb, 0, none⟩), .agg #[.int .u64 dist, .int .u64 id, .int .i64 slot]] _ (by kernel_rfl) (by rfl) (by kernel_rfl) (by kernel_rfl) (hp_push (T := T) (C := C) _ HB.out HC0.out HCS.out) ?_
  rintro e Z ⟨rfl, hz⟩
  refine ⟨_, rfl, HS.out.tch ((((Tch.refl (fun k => k = qb) w1).drewN 1).trans hz (fun k q => .inl q))) (by have := HLT.out; omega), ?_⟩
  have HZ := Lib.hid (((Tch.refl (fun k => k = qb) w1).drewN 1).trans hz (fun k q => .inl q))
  clear hz
  (try simp only [List.getElem_toArray, List.getElem_cons_zero, List.getElem_cons_succ, Act.put, List.setIfInBounds_toArray, List.set_cons_zero, List.set_cons_succ])
  refine wpAnyH_done (by kernel_rfl) ?_ _
  go_wp2_with fail
  go_ret
  exact ⟨rfl, HT2.out.trans HZ.out (fun k q => .inl q)⟩
set_option maxRecDepth 100000 in
theorem q_new (w : World) : Calls Try.prog 31 #[] w (fun e w' => ∃ f, e = .returned (.pointer (some ⟨w.heap.size, 0, none⟩)) ∧ w.alloc (.cells #[.slice none 0 0, f] 93) = w') := by
  go_enter Try.func31, Try.ntmps31
  go_wp2_with fail
  go_ret
  exact ⟨_, rfl, rfl⟩
set_option maxRecDepth 100000 in
theorem b_new (w : World) : Calls Try.prog 32 #[.int .i64 1] w (fun e w' => ∃ f, e = .returned (.pointer (some ⟨w.heap.size, 0, none⟩)) ∧ w.alloc (.cells #[.slice none 0 0, f, .int .i64 1] 95) = w') := by
  go_enter Try.func32, Try.ntmps32
  go_wp2_with fail
  go_ret
  exact ⟨_, rfl, rfl⟩
/-- A probe that knows nothing. -/
structure PrN (w : World) (B pb mb qb bb : Nat) (f1 f2 : Value) : Prop where
  p : Blk w pb 72 #[.slice none 0 0, .int .u64 0, .int .i64 1, .map (some mb), .pointer (some ⟨qb, 0, none⟩), .pointer (some ⟨bb, 0, none⟩)]
  m : MpAt w 3 mb 0 (.map [])
  q : Blk w qb 93 #[.slice none 0 0, f1]
  b : Blk w bb 95 #[.slice none 0 0, f2, .int .i64 1]
  ne : B ≤ mb ∧ mb < qb ∧ qb < bb ∧ bb < pb
set_option maxRecDepth 100000 in
set_option maxHeartbeats 2000000 in
theorem pr_new (w : World) : Calls Try.prog 14 #[.slice none 0 0, .int .u64 0, .int .i64 1] w (fun e w' => ∃ pb mb qb bb f1 f2, e = .returned (.pointer (some ⟨pb, 0, none⟩)) ∧ Below w.heap.size w w' ∧ PrN w' w.heap.size pb mb qb bb f1 f2) := by
  have HC := Lib.hid (sl_cloneV none 0 0 [] w Rd.nil_ (by decide) (fun _ => ⟨rfl, rfl⟩))
  have hmm := fun w => run_makeMap (P := Try.prog) 63 w
  go_enter Try.func14, Try.ntmps14
  go_wp2_with (first
    | (go_at_call 24; (with_reducible refine HC.out.mono ?_); rintro e w2 ⟨A', c', rfl, ho, hA, hb⟩; obtain rfl := hA.2 rfl; obtain rfl : c' = 0 := (own_none ho); have HB2 := Lib.hid hb; clear ho hA hb)
    | (go_at_call 31; (with_reducible refine (q_new _).mono ?_); rintro e w4 ⟨f1, rfl, hw4⟩)
    | (go_at_call 32; (with_reducible refine (b_new _).mono ?_); rintro e w5 ⟨f2, rfl, hw5⟩))
  go_ret
  have b3 := bel_box w2 (.map #[] 0)
  have s3 : (w2.alloc (.map #[] 0)).heap.size = w2.heap.size + 1 := by simp only [World.alloc, Array.size_push]
  have m3 : MpAt (w2.alloc (.map #[] 0)) 3 w2.heap.size 0 (.map []) := World.ownsMap_made w2 Try.prog 3 (plainElem (H := Unit) Try.prog 3)
  generalize w2.alloc (.map #[] 0) = w3 at *
  have b4 : Below w3.heap.size w3 w4 := by rw [← hw4]; exact bel_box _ _
  have q4 : Blk w4 w3.heap.size 93 #[.slice none 0 0, f1] := by rw [← hw4]; exact Blk.new _ _ _
  have s4 : w4.heap.size = w3.heap.size + 1 := by rw [← hw4]; simp only [World.alloc, Array.size_push]
  have b5 : Below w4.heap.size w4 w5 := by rw [← hw5]; exact bel_box _ _
  have q5 : Blk w5 w4.heap.size 95 #[.slice none 0 0, f2, .int .i64 1] := by rw [← hw5]; exact Blk.new _ _ _
  have s5 : w5.heap.size = w4.heap.size + 1 := by rw [← hw5]; simp only [World.alloc, Array.size_push]
  rw [← s3]
  have b6 := bel_box w5 (.cells #[.slice none 0 0, .int .u64 0, .int .i64 1, .map (some w2.heap.size), .pointer (some ⟨w3.heap.size, 0, none⟩), .pointer (some ⟨w4.heap.size, 0, none⟩)] 72)
  have p6 := Blk.new w5 72 #[.slice none 0 0, .int .u64 0, .int .i64 1, .map (some w2.heap.size), .pointer (some ⟨w3.heap.size, 0, none⟩), .pointer (some ⟨w4.heap.size, 0, none⟩)]
  have hz2 := HB2.out.size
  refine ⟨w5.heap.size, w2.heap.size, w3.heap.size, w4.heap.size, f1, f2, rfl, ?_, ⟨p6, (((m3.below b4).below b5).below b6), ((q4.below b5 q4.lt).below b6 (by omega)), q5.below b6 q5.lt, by omega⟩⟩
  exact (((HB2.out.trans (b3.mono hz2)).trans (b4.mono (by omega))).trans (b5.mono (by omega))).trans (b6.mono (by omega))
theorem spot_put (W : World) (dist id slot : Int) : (Instr.storeAt 77 (.pointer (some ⟨W.heap.size, 0, none⟩)) (.agg #[.int .u64 dist, .int .u64 id, .int .i64 slot])).run Try.prog (W.alloc (.cells #[.int .u64 0, .int .u64 0, .int .i64 0] 77)) = .ok () ((W.alloc (.cells #[.int .u64 0, .int .u64 0, .int .i64 0] 77)).setCells W.heap.size 0 [.int .u64 dist, .int .u64 id, .int .i64 slot]) :=
  row_store (Blk.new W 77 #[.int .u64 0, .int .u64 0, .int .i64 0]) #[.int .u64 dist, .int .u64 id, .int .i64 slot] rfl spotT (by simp [Value.oneCell'])
theorem spot_blk (W : World) (dist id slot : Int) : Blk ((W.alloc (.cells #[.int .u64 0, .int .u64 0, .int .i64 0] 77)).setCells W.heap.size 0 [.int .u64 dist, .int .u64 id, .int .i64 slot]) W.heap.size 77 #[.int .u64 dist, .int .u64 id, .int .i64 slot] := (Blk.new W 77 #[.int .u64 0, .int .u64 0, .int .i64 0]).put _ rfl
theorem spot_bel (W : World) (dist id slot : Int) : Below W.heap.size W ((W.alloc (.cells #[.int .u64 0, .int .u64 0, .int .i64 0] 77)).setCells W.heap.size 0 [.int .u64 dist, .int .u64 id, .int .i64 slot]) := below_setCells (bel_box _ _) (Nat.le_refl _) (Nat.le_refl _) _ _
theorem load_ptr67 {w : World} {b o : Nat} {A : Option Addr} (h : w.cell? ⟨b, o, none⟩ = some (.pointer A)) : (Instr.loadAt 67 (.pointer (some ⟨b, o, none⟩))).run Try.prog w = .ok (.pointer A) w := by
  simp [go_sem, h]
theorem load_ptr69 {w : World} {b o : Nat} {A : Option Addr} (h : w.cell? ⟨b, o, none⟩ = some (.pointer A)) : (Instr.loadAt 69 (.pointer (some ⟨b, o, none⟩))).run Try.prog w = .ok (.pointer A) w := by
  simp [go_sem, h]
set_option maxRecDepth 100000 in
theorem dist0 (w : World) : Calls Try.prog 34 #[.slice none 0 0, .slice none 0 0] w (fun e w' => e = .returned (.int .u64 0) ∧ w = w') := by
  go_enter Try.func34, Try.ntmps34
  go_wp2_with fail
  go_loopw [5, 6, 7, 8, 9, 19] (fun s5 _ _ _ _ s19 wr => s5 = .int .u64 0 ∧ s19 = .int .i64 0 ∧ Hid (w = wr)) (fun _ _ _ _ _ _ _ => 0)
  case atStart => exact ⟨rfl, rfl, rfl⟩
  case round =>
    obtain ⟨rfl, rfl, hw⟩ := hrel
    go_wp2_with fail
    go_ret
    exact ⟨rfl, hw.out⟩
set_option maxRecDepth 100000 in
theorem has0 (w : World) : Calls Try.prog 36 #[.int .u64 0, .int .u64 0] w (fun e w' => e = .returned (.bool true) ∧ w = w') := by
  go_enter Try.func36, Try.ntmps36
  go_wp2_with fail
  go_ret
  exact ⟨rfl, rfl⟩
set_option maxRecDepth 100000 in
set_option maxHeartbeats 4000000 in
theorem pr_offer {B pb mb qb bb : Nat} {f1 f2 : Value} (w : World) (h : PrN w B pb mb qb bb f1 f2) :
    Calls Try.prog 16 #[.pointer (some ⟨pb, 0, none⟩), .int .i64 1, .agg #[.int .u64 0, .slice none 0 0, .int .u64 0]] w (fun e w' => e = .returned (.bool true) ∧ Tch (fun k => k = mb ∨ k = qb ∨ k = bb) w w') := by
  obtain ⟨w1, hw1⟩ : ∃ x, w.alloc (.cells #[.int .u64 0, .slice none 0 0, .int .u64 0] 32) = x := ⟨_, rfl⟩
  have hI : Blk w1 w.heap.size 32 #[.int .u64 0, .slice none 0 0, .int .u64 0] := by rw [← hw1]; exact Blk.new _ _ _
  have b1 : Below w.heap.size w w1 := by rw [← hw1]; exact bel_box _ _
  have hpl := h.p.lt
  have hql := h.q.lt
  have hbl := h.b.lt
  have hml := h.m.lt
  have hne := h.ne
  have p1 := h.p.below b1 hpl
  have p3 : w1.cell? ⟨pb, 3, none⟩ = some (.map (some mb)) := p1.cell 3
  have HM := Lib.hid (h.m.below b1)
  have HP1 := Lib.hid p1
  have HQ1 := Lib.hid (h.q.below b1 hql)
  have HB1 := Lib.hid (h.b.below b1 hbl)
  have HI := Lib.hid hI
  have HT1 : Hid (Tch (fun k => k = mb ∨ k = qb ∨ k = bb) w w1) := Tch.of_below b1
  have hkey := keyOf_int_mk (P := Try.prog) Try.underlying3 (show (Lit.int .i64 1).wf = true by decide)
  have HNN := Lib.hid (And.intro hne (And.intro hpl (And.intro hql (And.intro hbl hml))))
  clear h hI b1 p1 hne
  go_enter Try.func16, Try.ntmps16
  go_upto_region 1 with fail
  (try rw [hw1])
  clear hw1
  go_upto_region 6 with (first
    | (at_lookup; refine wpList_lookup_own_int _ rfl (.tmp 13) (.tmp 14) 63 rfl 3 3 .i64 lawI Try.underlying63 Try.underlying3 (zeroI _) mb 0 _ rfl HM.out (.int .i64 1) (.int .i64 1) rfl hkey ?_; intro cc hat hwc; obtain rfl : cc = 0 := (cnt_eq (CmD.nil_ .i64) hat).trans rfl; clear hat hwc)
    | (at_mapUpdate; refine wpList_mapUpdate_own _ rfl (.tmp 13) (.tmp 14) (.tmp 16) 63 rfl 3 3 lawI Try.underlying63 (plainElem Try.prog 3) mb 0 _ rfl HM.out (by decide) (.int .i64 1) (.int .i64 1) (.int .i64 1) rfl rfl hkey (.lit (.int .i64 1)) [] (plainElem_int (H := Unit) (P := Try.prog) Try.underlying3 (by decide)) ?_; intro w2 hM2 hg2; have HM2 := Lib.hid hM2; have hne2 : ∀ k, k ≠ mb → k < w1.heap.size → w2.heap[k]? = w1.heap[k]? := fun k q1 q2 => hg2.block k q2 (by intro e; injection e with e; exact q1 e); have hp2 := (hne2 pb (by have := HNN.out.1; omega) HP1.out.lt).trans HP1.out; have HP2 : Hid (Blk w2 pb 72 #[.slice none 0 0, .int .u64 0, .int .i64 1, .map (some mb), .pointer (some ⟨qb, 0, none⟩), .pointer (some ⟨bb, 0, none⟩)]) := hp2; have p3' : w2.cell? ⟨pb, 3, none⟩ = some (.map (some mb)) := HP2.out.cell 3; have HQ2 : Hid (Blk w2 qb _ _) := (hne2 qb (by have := HNN.out.1; omega) HQ1.out.lt).trans HQ1.out; have HB2 : Hid (Blk w2 bb _ _) := (hne2 bb (by have := HNN.out.1; omega) HB1.out.lt).trans HB1.out; have HI2 : Hid (Blk w2 w.heap.size _ _) := (hne2 w.heap.size (by have := HNN.out.2.2.2.2; omega) HI.out.lt).trans HI.out; have HT2 : Hid (Tch (fun k => k = mb ∨ k = qb ∨ k = bb) w w2) := HT1.out.trans (S' := fun k => k = mb) ⟨hg2.os, hg2.tape, hg2.output, hg2.size, fun k q1 q2 => hne2 k q2 q1⟩ (fun k q => .inl (.inl q)); clear hM2 hg2 hne2 hp2)
    | (at_lookup; refine wpList_lookup_own_int _ rfl (.tmp 20) (.tmp 21) 63 rfl 3 3 .i64 lawI Try.underlying63 Try.underlying3 (zeroI _) mb 1 _ rfl HM2.out (.int .i64 1) (.int .i64 1) rfl hkey ?_; intro cc hat hwc; obtain rfl : cc = 1 := (cnt_eq ((CmD.nil_ .i64).snoc 1) hat).trans rfl; clear hat hwc))
  clear HM HM2 HP1 HQ1 HB1 HI HT1 p3 p3' hkey
  go_cut [7] from 24 to 35 (fun s7 wx => s7 = .pointer (some ⟨w2.drew.heap.size, 0, none⟩) ∧ Hid (Below w2.heap.size w2 wx) ∧ Hid (Blk wx w2.drew.heap.size 77 #[.int .u64 0, .int .u64 0, .int .i64 1]))
  case first =>
    refine wp_region_held_drew (S := fun w' => Below w2.heap.size w2 w') (by kernel_rfl) (below_drewN (Below.refl _ w2) 1) (fun hH => ?_)
    refine wpAnyH_take (i := 0) (v := .pointer (some ⟨pb, 0, none⟩)) rfl (by kernel_rfl) (by kernel_rfl) (by kernel_rfl) (fun _ _ _ h => h) (.inl ⟨by rfl, fun _ _ => by kernel_rfl⟩) hH ?_
    (try simp only [List.getElem_toArray, List.getElem_cons_zero, Act.put, List.setIfInBounds_toArray, List.set_cons_zero, List.set_cons_succ])
    refine wpAnyH_take (i := 1) (v := .pointer (some ⟨pb, 0, none⟩)) rfl (by kernel_rfl) (by kernel_rfl) (by kernel_rfl) (fun _ _ _ h => h) (.inl ⟨by rfl, fun _ _ => by kernel_rfl⟩) hH ?_
    (try simp only [List.getElem_toArray, List.getElem_cons_zero, List.getElem_cons_succ, Act.put, List.setIfInBounds_toArray, List.set_cons_zero, List.set_cons_succ])
    refine wpAnyH_take (i := 2) (v := .pointer (some ⟨pb, 0, none⟩)) rfl (by kernel_rfl) (by kernel_rfl) (by kernel_rfl) (fun _ _ _ h => h) (.inl ⟨by rfl, fun _ _ => by kernel_rfl⟩) hH ?_
    (try simp only [List.getElem_toArray, List.getElem_cons_zero, List.getElem_cons_succ, Act.put, List.setIfInBounds_toArray, List.set_cons_zero, List.set_cons_succ])
    refine wpAnyH_take (i := 3) (v := .slice none 0 0) rfl (by kernel_rfl) (by kernel_rfl) (by kernel_rfl) (fun _ _ _ h => h) (yieldsIf_loadP (by rfl) _ rfl rfl (fun _ q => load_i32s ((HP2.out.below q HP2.out.lt).cell 0))) hH ?_
    (try simp only [List.getElem_toArray, List.getElem_cons_zero, List.getElem_cons_succ, Act.put, List.setIfInBounds_toArray, List.set_cons_zero, List.set_cons_succ])
    refine wpAnyH_take (i := 4) (v := .pointer (some ⟨w.heap.size, 1, none⟩)) rfl (by kernel_rfl) (by kernel_rfl) (by kernel_rfl) (fun _ _ _ h => h) (.inl ⟨by rfl, fun _ _ => by kernel_rfl⟩) hH ?_
    (try simp only [List.getElem_toArray, List.getElem_cons_zero, List.getElem_cons_succ, Act.put, List.setIfInBounds_toArray, List.set_cons_zero, List.set_cons_succ])
    refine wpAnyH_take (i := 5) (v := .slice none 0 0) rfl (by kernel_rfl) (by kernel_rfl) (by kernel_rfl) (fun _ _ _ h => h) (yieldsIf_loadP (by rfl) _ rfl rfl (fun _ q => load_i32s ((HI2.out.below q HI2.out.lt).cell 1))) hH ?_
    (try simp only [List.getElem_toArray, List.getElem_cons_zero, List.getElem_cons_succ, Act.put, List.setIfInBounds_toArray, List.set_cons_zero, List.set_cons_succ])
    refine wpAnyH_take (i := 7) (v := .pointer (some ⟨w.heap.size, 0, none⟩)) rfl (by kernel_rfl) (by kernel_rfl) (by kernel_rfl) (fun _ _ _ h => h) (.inl ⟨by rfl, fun _ _ => by kernel_rfl⟩) hH ?_
    (try simp only [List.getElem_toArray, List.getElem_cons_zero, List.getElem_cons_succ, Act.put, List.setIfInBounds_toArray, List.set_cons_zero, List.set_cons_succ])
    refine wpAnyH_take (i := 8) (v := .int .u64 0) rfl (by kernel_rfl) (by kernel_rfl) (by kernel_rfl) (fun _ _ _ h => h) (yieldsIf_loadP (by rfl) _ rfl rfl (fun _ q => load_u64 ((HI2.out.below q HI2.out.lt).cell 0))) hH ?_
    (try simp only [List.getElem_toArray, List.getElem_cons_zero, List.getElem_cons_succ, Act.put, List.setIfInBounds_toArray, List.set_cons_zero, List.set_cons_succ])
    refine wpAnyH_take (i := 10) (v := .int .i64 1) rfl (by kernel_rfl) (by kernel_rfl) (by kernel_rfl) (fun _ _ _ h => h) (.inl ⟨by rfl, fun _ _ => by kernel_rfl⟩) hH ?_
    (try simp only [List.getElem_toArray, List.getElem_cons_zero, List.getElem_cons_succ, Act.put, List.setIfInBounds_toArray, List.set_cons_zero, List.set_cons_succ])
    have h1 : Below w2.heap.size w2 (w2.drew.alloc (.cells #[.int .u64 0, .int .u64 0, .int .i64 0] 77)) := hH.alloc hH.size _
    refine wpAnyH_all (rs := [6, 12]) (by kernel_rfl) (by simp) (fun i hi => ?_)
    rcases (by simpa using hi : i = 6 ∨ i = 12) with rfl | rfl
    · refine wpOp_call 34 #[.slice none 0 0, .slice none 0 0] _ (by rfl) (by kernel_rfl) (by kernel_rfl) (dist0 _) ?_
      rintro e Z ⟨rfl, rfl⟩
      refine ⟨_, rfl, hH, ?_⟩
      (try simp only [List.getElem_toArray, List.getElem_cons_zero, List.getElem_cons_succ, Act.put, List.setIfInBounds_toArray, List.set_cons_zero, List.set_cons_succ])
      refine wpAnyH_take (i := 9) (v := .agg #[.int .u64 0, .int .u64 0]) rfl (by kernel_rfl) (by kernel_rfl) (by kernel_rfl) (fun _ _ _ h => h) (.inl ⟨by rfl, fun _ _ => by kernel_rfl⟩) hH ?_
      (try simp only [List.getElem_toArray, List.getElem_cons_zero, List.getElem_cons_succ, Act.put, List.setIfInBounds_toArray, List.set_cons_zero, List.set_cons_succ])
      refine wpAnyH_take (i := 11) (v := .agg #[.int .u64 0, .int .u64 0, .int .i64 1]) rfl (by kernel_rfl) (by kernel_rfl) (by kernel_rfl) (fun _ _ _ h => h) (.inl ⟨by rfl, fun _ _ => by kernel_rfl⟩) hH ?_
      (try simp only [List.getElem_toArray, List.getElem_cons_zero, List.getElem_cons_succ, Act.put, List.setIfInBounds_toArray, List.set_cons_zero, List.set_cons_succ])
      refine wpAnyH_make 12 (.pointer (some ⟨w2.drew.heap.size, 0, none⟩)) (by kernel_rfl) (by rfl) (by kernel_rfl) (by kernel_rfl) h1 ?_
      (try simp only [List.getElem_toArray, List.getElem_cons_zero, List.getElem_cons_succ, Act.put, List.setIfInBounds_toArray, List.set_cons_zero, List.set_cons_succ])
      have SR := spot_put w2.drew 0 0 1
      have hB3 := spot_blk w2.drew 0 0 1
      have b3 := spot_bel w2.drew 0 0 1
      obtain ⟨w3, hw3⟩ : ∃ x, (w2.drew.alloc (.cells #[.int .u64 0, .int .u64 0, .int .i64 0] 77)).setCells w2.drew.heap.size 0 [.int .u64 0, .int .u64 0, .int .i64 1] = x := ⟨_, rfl⟩
      rw [hw3] at SR hB3 b3
      have h2 : Below w2.heap.size w2 w3 := hH.trans (b3.mono hH.size)
      refine wpAnyH_store 13 _ _ _ (by kernel_rfl) (by rfl) (by kernel_rfl) (by rfl) (by rfl) (by rfl) SR h2 ?_
      (try simp only [List.getElem_toArray, List.getElem_cons_zero, List.getElem_cons_succ, Act.put])
      refine wpAnyH_done (by kernel_rfl) ?_ _
      have H2 := Lib.hid h2
      have HB3 := Lib.hid hB3
      clear SR hB3 b3 h2 h1 hw3 hH
      go_wp2_with fail
      go_meet
      exact ⟨rfl, H2, HB3⟩
    · refine wpOp_value (w' := w2.drew.alloc (.cells #[.int .u64 0, .int .u64 0, .int .i64 0] 77)) (.pointer (some ⟨w2.drew.heap.size, 0, none⟩)) (by rfl) (by kernel_rfl) (by kernel_rfl) ⟨h1, ?_⟩
      (try simp only [List.getElem_toArray, List.getElem_cons_zero, List.getElem_cons_succ, Act.put, List.setIfInBounds_toArray, List.set_cons_zero, List.set_cons_succ])
      refine wpAnyH_call 6 34 #[.slice none 0 0, .slice none 0 0] _ (by kernel_rfl) (by rfl) (by kernel_rfl) (by kernel_rfl) (dist0 _) ?_
      rintro e Z ⟨rfl, rfl⟩
      refine ⟨_, rfl, h1, ?_⟩
      (try simp only [List.getElem_toArray, List.getElem_cons_zero, List.getElem_cons_succ, Act.put, List.setIfInBounds_toArray, List.set_cons_zero, List.set_cons_succ])
      refine wpAnyH_take (i := 9) (v := .agg #[.int .u64 0, .int .u64 0]) rfl (by kernel_rfl) (by kernel_rfl) (by kernel_rfl) (fun _ _ _ h => h) (.inl ⟨by rfl, fun _ _ => by kernel_rfl⟩) h1 ?_
      (try simp only [List.getElem_toArray, List.getElem_cons_zero, List.getElem_cons_succ, Act.put, List.setIfInBounds_toArray, List.set_cons_zero, List.set_cons_succ])
      refine wpAnyH_take (i := 11) (v := .agg #[.int .u64 0, .int .u64 0, .int .i64 1]) rfl (by kernel_rfl) (by kernel_rfl) (by kernel_rfl) (fun _ _ _ h => h) (.inl ⟨by rfl, fun _ _ => by kernel_rfl⟩) h1 ?_
      (try simp only [List.getElem_toArray, List.getElem_cons_zero, List.getElem_cons_succ, Act.put, List.setIfInBounds_toArray, List.set_cons_zero, List.set_cons_succ])
      have SR := spot_put w2.drew 0 0 1
      have hB3 := spot_blk w2.drew 0 0 1
      have b3 := spot_bel w2.drew 0 0 1
      obtain ⟨w3, hw3⟩ : ∃ x, (w2.drew.alloc (.cells #[.int .u64 0, .int .u64 0, .int .i64 0] 77)).setCells w2.drew.heap.size 0 [.int .u64 0, .int .u64 0, .int .i64 1] = x := ⟨_, rfl⟩
      rw [hw3] at SR hB3 b3
      have h2 : Below w2.heap.size w2 w3 := hH.trans (b3.mono hH.size)
      refine wpAnyH_store 13 _ _ _ (by kernel_rfl) (by rfl) (by kernel_rfl) (by rfl) (by rfl) (by rfl) SR h2 ?_
      (try simp only [List.getElem_toArray, List.getElem_cons_zero, List.getElem_cons_succ, Act.put])
      refine wpAnyH_done (by kernel_rfl) ?_ _
      have H2 := Lib.hid h2
      have HB3 := Lib.hid hB3
      clear SR hB3 b3 h2 h1 hw3 hH
      go_wp2_with fail
      go_meet
      exact ⟨rfl, H2, HB3⟩
  case rest =>
  obtain ⟨rfl, hh2, hhB⟩ := hcut
  obtain ⟨w3, hw3⟩ : ∃ q, wc = q := ⟨_, rfl⟩
  rw [hw3] at hh2 hhB ⊢
  have h2 := hh2.out
  have hB3 := hhB.out
  have HP3 := HP2.out.below h2 HP2.out.lt
  have HPS : Hid (Blk w3 pb 72 #[.slice none 0 0, .int .u64 0, .int .i64 1, .map (some mb), .pointer (some ⟨qb, 0, none⟩), .pointer (some ⟨bb, 0, none⟩)] ∧ Blk w3 w2.drew.heap.size 77 #[.int .u64 0, .int .u64 0, .int .i64 1]) := ⟨HP3, hB3⟩
  have HQ3 : Hid (Blk w3 qb 93 #[.slice none 0 0, f1]) := HQ2.out.below h2 HQ2.out.lt
  have HB3 : Hid (Blk w3 bb 95 #[.slice none 0 0, f2, .int .i64 1]) := HB2.out.below h2 HB2.out.lt
  have HI3 : Hid (Blk w3 w.heap.size 32 #[.int .u64 0, .slice none 0 0, .int .u64 0]) := HI2.out.below h2 HI2.out.lt
  have HT3 := Lib.hid (HT2.out.trans (Tch.of_below (S := fun k => k = mb ∨ k = qb ∨ k = bb) h2) (fun k q => .inl q))
  have HSB : Hid (w.heap.size < w2.drew.heap.size) := HI2.out.lt
  obtain ⟨sb, hsb⟩ : ∃ q, w2.drew.heap.size = q := ⟨_, rfl⟩
  rw [hsb] at HPS HSB ⊢
  clear hB3 h2 hh2 hhB HP3 hw3 HP2 HQ2 HB2 HI2 HT2 hsb
  go_upto_region 7 with fail
  refine wp_region_held_drew (S := fun w' => Blk w' pb 72 #[.slice none 0 0, .int .u64 0, .int .i64 1, .map (some mb), .pointer (some ⟨qb, 0, none⟩), .pointer (some ⟨bb, 0, none⟩)] ∧ Blk w' sb 77 #[.int .u64 0, .int .u64 0, .int .i64 1]) (by kernel_rfl) (HPS.out) (fun hH => ?_)
  refine wpAnyH_take (i := 0) (v := .pointer (some ⟨pb, 0, none⟩)) rfl (by kernel_rfl) (by kernel_rfl) (by kernel_rfl) (fun _ _ _ h => h) (.inl ⟨by rfl, fun _ _ => by kernel_rfl⟩) hH ?_
  (try simp only [List.getElem_toArray, List.getElem_cons_zero, Act.put, List.setIfInBounds_toArray, List.set_cons_zero, List.set_cons_succ])
  refine wpAnyH_take (i := 1) (v := .pointer (some ⟨pb, 0, none⟩)) rfl (by kernel_rfl) (by kernel_rfl) (by kernel_rfl) (fun _ _ _ h => h) (.inl ⟨by rfl, fun _ _ => by kernel_rfl⟩) hH ?_
  (try simp only [List.getElem_toArray, List.getElem_cons_zero, List.getElem_cons_succ, Act.put, List.setIfInBounds_toArray, List.set_cons_zero, List.set_cons_succ])
  refine wpAnyH_take (i := 2) (v := .pointer (some ⟨pb, 4, none⟩)) rfl (by kernel_rfl) (by kernel_rfl) (by kernel_rfl) (fun _ _ _ h => h) (.inl ⟨by rfl, fun _ _ => by kernel_rfl⟩) hH ?_
  (try simp only [List.getElem_toArray, List.getElem_cons_zero, List.getElem_cons_succ, Act.put, List.setIfInBounds_toArray, List.set_cons_zero, List.set_cons_succ])
  refine wpAnyH_take (i := 3) (v := .pointer (some ⟨qb, 0, none⟩)) rfl (by kernel_rfl) (by kernel_rfl) (by kernel_rfl) (fun _ _ _ h => h) (yieldsIf_loadP (by rfl) _ rfl rfl (fun _ q => load_ptr67 (q.1.cell 4))) hH ?_
  (try simp only [List.getElem_toArray, List.getElem_cons_zero, List.getElem_cons_succ, Act.put, List.setIfInBounds_toArray, List.set_cons_zero, List.set_cons_succ])
  refine wpAnyH_take (i := 4) (v := .agg #[.int .u64 0, .int .u64 0, .int .i64 1]) rfl (by kernel_rfl) (by kernel_rfl) (by kernel_rfl) (fun _ _ _ h => h) (yieldsIf_loadP (by rfl) _ rfl rfl (fun _ q => spot_load q.2)) hH ?_
  (try simp only [List.getElem_toArray, List.getElem_cons_zero, List.getElem_cons_succ, Act.put, List.setIfInBounds_toArray, List.set_cons_zero, List.set_cons_succ])
  refine wpAnyH_call 5 35 #[.pointer (some ⟨qb, 0, none⟩), .agg #[.int .u64 0, .int .u64 0, .int .i64 1]] _ (by kernel_rfl) (by rfl) (by kernel_rfl) (by kernel_rfl) (q_push (T := 93) (C := #[.slice none 0 0, f1]) _ HQ3.out rfl (by simp)) ?_
  rintro e Z ⟨rfl, hz⟩
  have hz' : Tch (fun k => k = qb) w3 Z := ((Tch.refl (fun k => k = qb) w3).drewN 1).trans hz (fun k q => .inl q)
  refine ⟨_, rfl, ⟨HPS.out.1.tch hz' (by have := HNN.out; omega), HPS.out.2.tch hz' (by have := HNN.out; have := HSB.out; omega)⟩, ?_⟩
  have HZ := Lib.hid hz'
  clear hz hz'
  (try simp only [List.getElem_toArray, List.getElem_cons_zero, List.getElem_cons_succ, Act.put, List.setIfInBounds_toArray, List.set_cons_zero, List.set_cons_succ])
  refine wpAnyH_done (by kernel_rfl) ?_ _
  have HPS4 : Hid (_ ∧ _) := ⟨HPS.out.1.tch HZ.out (by have := HNN.out; omega), HPS.out.2.tch HZ.out (by have := HNN.out; have := HSB.out; omega)⟩
  have HB4 := Lib.hid (HB3.out.tch HZ.out (by have := HNN.out; omega))
  have HI4 := Lib.hid (HI3.out.tch HZ.out (by have := HNN.out; omega))
  have HT4 := Lib.hid (HT3.out.trans HZ.out (fun k q => .inl (.inr (.inl q))))
  clear HPS HB3 HI3 HT3 HQ3 HZ
  have HPS := HPS4
  obtain ⟨w4, hw4⟩ : ∃ q, Z = q := ⟨_, rfl⟩
  rw [hw4] at HPS HB4 HI4 HT4 ⊢
  clear HPS4 hw4
  go_upto_region 8 with fail
  refine wp_region_held_drew (S := fun w' => Below w4.heap.size w4 w') (by kernel_rfl) (below_drewN (Below.refl _ w4) 1) (fun hH => ?_)
  refine wpAnyH_take (i := 0) (v := .pointer (some ⟨w.heap.size, 2, none⟩)) rfl (by kernel_rfl) (by kernel_rfl) (by kernel_rfl) (fun _ _ _ h => h) (.inl ⟨by rfl, fun _ _ => by kernel_rfl⟩) hH ?_
  (try simp only [List.getElem_toArray, List.getElem_cons_zero, Act.put, List.setIfInBounds_toArray, List.set_cons_zero, List.set_cons_succ])
  refine wpAnyH_take (i := 1) (v := .int .u64 0) rfl (by kernel_rfl) (by kernel_rfl) (by kernel_rfl) (fun _ _ _ h => h) (yieldsIf_loadP (by rfl) _ rfl rfl (fun _ q => load_u64 ((HI4.out.below q HI4.out.lt).cell 2))) hH ?_
  (try simp only [List.getElem_toArray, List.getElem_cons_zero, List.getElem_cons_succ, Act.put, List.setIfInBounds_toArray, List.set_cons_zero, List.set_cons_succ])
  refine wpAnyH_take (i := 2) (v := .pointer (some ⟨pb, 0, none⟩)) rfl (by kernel_rfl) (by kernel_rfl) (by kernel_rfl) (fun _ _ _ h => h) (.inl ⟨by rfl, fun _ _ => by kernel_rfl⟩) hH ?_
  (try simp only [List.getElem_toArray, List.getElem_cons_zero, List.getElem_cons_succ, Act.put, List.setIfInBounds_toArray, List.set_cons_zero, List.set_cons_succ])
  refine wpAnyH_take (i := 3) (v := .pointer (some ⟨pb, 0, none⟩)) rfl (by kernel_rfl) (by kernel_rfl) (by kernel_rfl) (fun _ _ _ h => h) (.inl ⟨by rfl, fun _ _ => by kernel_rfl⟩) hH ?_
  (try simp only [List.getElem_toArray, List.getElem_cons_zero, List.getElem_cons_succ, Act.put, List.setIfInBounds_toArray, List.set_cons_zero, List.set_cons_succ])
  refine wpAnyH_take (i := 4) (v := .pointer (some ⟨pb, 1, none⟩)) rfl (by kernel_rfl) (by kernel_rfl) (by kernel_rfl) (fun _ _ _ h => h) (.inl ⟨by rfl, fun _ _ => by kernel_rfl⟩) hH ?_
  (try simp only [List.getElem_toArray, List.getElem_cons_zero, List.getElem_cons_succ, Act.put, List.setIfInBounds_toArray, List.set_cons_zero, List.set_cons_succ])
  refine wpAnyH_take (i := 5) (v := .int .u64 0) rfl (by kernel_rfl) (by kernel_rfl) (by kernel_rfl) (fun _ _ _ h => h) (yieldsIf_loadP (by rfl) _ rfl rfl (fun _ q => load_u64 ((HPS.out.1.below q HPS.out.1.lt).cell 1))) hH ?_
  (try simp only [List.getElem_toArray, List.getElem_cons_zero, List.getElem_cons_succ, Act.put, List.setIfInBounds_toArray, List.set_cons_zero, List.set_cons_succ])
  refine wpAnyH_call 6 36 #[.int .u64 0, .int .u64 0] _ (by kernel_rfl) (by rfl) (by kernel_rfl) (by kernel_rfl) (has0 _) ?_
  rintro e Z ⟨rfl, rfl⟩
  refine ⟨_, rfl, hH, ?_⟩
  (try simp only [List.getElem_toArray, List.getElem_cons_zero, List.getElem_cons_succ, Act.put, List.setIfInBounds_toArray, List.set_cons_zero, List.set_cons_succ])
  refine wpAnyH_done (by kernel_rfl) ?_ _
  have HPS5 : Hid (_ ∧ _) := ⟨HPS.out.1.below hH HPS.out.1.lt, HPS.out.2.below hH HPS.out.2.lt⟩
  have HB5 := Lib.hid (HB4.out.below hH HB4.out.lt)
  have HT5 := Lib.hid (HT4.out.trans (Tch.of_below (S := fun k => k = mb ∨ k = qb ∨ k = bb) hH) (fun k q => .inl q))
  clear HPS HB4 HT4 HI4 hH
  have HPS := HPS5
  obtain ⟨w5, hw5⟩ : ∃ q, w4.drew = q := ⟨_, rfl⟩
  rw [hw5] at HPS HB5 HT5 ⊢
  clear HPS5 hw5
  go_upto_region 9 with fail
  refine wp_region_held_drew (S := fun w' => Blk w' pb 72 #[.slice none 0 0, .int .u64 0, .int .i64 1, .map (some mb), .pointer (some ⟨qb, 0, none⟩), .pointer (some ⟨bb, 0, none⟩)] ∧ Blk w' sb 77 #[.int .u64 0, .int .u64 0, .int .i64 1]) (by kernel_rfl) (HPS.out) (fun hH => ?_)
  refine wpAnyH_take (i := 0) (v := .pointer (some ⟨pb, 0, none⟩)) rfl (by kernel_rfl) (by kernel_rfl) (by kernel_rfl) (fun _ _ _ h => h) (.inl ⟨by rfl, fun _ _ => by kernel_rfl⟩) hH ?_
  (try simp only [List.getElem_toArray, List.getElem_cons_zero, Act.put, List.setIfInBounds_toArray, List.set_cons_zero, List.set_cons_succ])
  refine wpAnyH_take (i := 1) (v := .pointer (some ⟨pb, 0, none⟩)) rfl (by kernel_rfl) (by kernel_rfl) (by kernel_rfl) (fun _ _ _ h => h) (.inl ⟨by rfl, fun _ _ => by kernel_rfl⟩) hH ?_
  (try simp only [List.getElem_toArray, List.getElem_cons_zero, List.getElem_cons_succ, Act.put, List.setIfInBounds_toArray, List.set_cons_zero, List.set_cons_succ])
  refine wpAnyH_take (i := 2) (v := .pointer (some ⟨pb, 5, none⟩)) rfl (by kernel_rfl) (by kernel_rfl) (by kernel_rfl) (fun _ _ _ h => h) (.inl ⟨by rfl, fun _ _ => by kernel_rfl⟩) hH ?_
  (try simp only [List.getElem_toArray, List.getElem_cons_zero, List.getElem_cons_succ, Act.put, List.setIfInBounds_toArray, List.set_cons_zero, List.set_cons_succ])
  refine wpAnyH_take (i := 3) (v := .pointer (some ⟨bb, 0, none⟩)) rfl (by kernel_rfl) (by kernel_rfl) (by kernel_rfl) (fun _ _ _ h => h) (yieldsIf_loadP (by rfl) _ rfl rfl (fun _ q => load_ptr69 (q.1.cell 5))) hH ?_
  (try simp only [List.getElem_toArray, List.getElem_cons_zero, List.getElem_cons_succ, Act.put, List.setIfInBounds_toArray, List.set_cons_zero, List.set_cons_succ])
  refine wpAnyH_take (i := 4) (v := .agg #[.int .u64 0, .int .u64 0, .int .i64 1]) rfl (by kernel_rfl) (by kernel_rfl) (by kernel_rfl) (fun _ _ _ h => h) (yieldsIf_loadP (by rfl) _ rfl rfl (fun _ q => spot_load q.2)) hH ?_
  (try simp only [List.getElem_toArray, List.getElem_cons_zero, List.getElem_cons_succ, Act.put, List.setIfInBounds_toArray, List.set_cons_zero, List.set_cons_succ])
  refine wpAnyH_call 5 37 #[.pointer (some ⟨bb, 0, none⟩), .agg #[.int .u64 0, .int .u64 0, .int .i64 1]] _ (by kernel_rfl) (by rfl) (by kernel_rfl) (by kernel_rfl) (b_offer (T := 95) (C := #[.slice none 0 0, f2, .int .i64 1]) _ HB5.out rfl rfl (by simp)) ?_
  rintro e Z ⟨rfl, hz⟩
  have hz' : Tch (fun k => k = bb) w5 Z := ((Tch.refl (fun k => k = bb) w5).drewN 1).trans hz (fun k q => .inl q)
  refine ⟨_, rfl, ⟨HPS.out.1.tch hz' (by have := HNN.out; omega), HPS.out.2.tch hz' (by have := HNN.out; have := HSB.out; omega)⟩, ?_⟩
  have HZ := Lib.hid hz'
  clear hz hz'
  (try simp only [List.getElem_toArray, List.getElem_cons_zero, List.getElem_cons_succ, Act.put, List.setIfInBounds_toArray, List.set_cons_zero, List.set_cons_succ])
  refine wpAnyH_done (by kernel_rfl) ?_ _
  have HTF := Lib.hid (HT5.out.trans HZ.out (fun k q => .inl (.inr (.inr q))))
  go_wp2_with fail
  go_ret
  exact ⟨rfl, HTF.out⟩
end Go.Proofs.Ytckclflbcgblaaa
