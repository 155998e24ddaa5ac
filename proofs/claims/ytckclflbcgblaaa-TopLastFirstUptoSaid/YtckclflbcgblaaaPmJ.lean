/- Planes: what Put looks for. Printed by genPmJ.py. -/
import Derived.Test.YtckclflbcgblaaaPmI
namespace Go.Proofs.Ytckclflbcgblaaa
open Go.RowKit Go.Maps Go.ChangeMaps Go.MapKept
theorem load_u64 {w : World} {b o : Nat} {v : Int} (h : w.cell? ⟨b, o, none⟩ = some (.int .u64 v)) : (Instr.loadAt 29 (.pointer (some ⟨b, o, none⟩))).run Try.prog w = .ok (.int .u64 v) w := by
  simp [go_sem, h]
/-- An item's cells. -/
def itL (id : Int) (vA : Option Addr) (vn vc : Nat) (tags : Int) : Array Value := #[.int .u64 id, .slice vA vn vc, .int .u64 tags]
set_option maxRecDepth 100000 in
set_option maxHeartbeats 1000000 in
theorem put_cl (k : Nat) (A : Option Addr) (n c : Nat) (ns : List ND) (en tp : Int) (id : Int) (vA : Option Addr) (vn vc : Nat) (tags : Int) (t1 t2 : Nat) (W : World) (hg : PgAt W W.heap.size A n c ns) (hk : k < n)
    (k1 : Blk W t1 27 (pgL A n c en tp)) (k2 : Blk W t2 32 (itL id vA vn vc tags)) :
    Calls Try.prog 22 #[.int .i64 k, .pointer (some ⟨t1, 0, none⟩), .pointer (some ⟨t2, 0, none⟩)] W (RetB ((nAt ns k).id == id) W) := by
  obtain ⟨b, o, rfl, hb, hid⟩ := hg.ids hk
  have HID : Hid (∀ Y, Below W.heap.size W Y → Y.cell? ⟨b, o + k * 7, none⟩ = some (.int .u64 (nAt ns k).id)) := fun Y hY => (hY.cell (p := ⟨b, o + k * 7, none⟩) hb).trans hid
  have K1 := Lib.hid k1
  have K2 := Lib.hid k2
  have hn := hg.2.1
  clear hg k1 k2 hid hb
  go_enter Try.func22, Try.ntmps22
  go_wp2_with fail
  refine wp_region_held_drew (S := fun w' => Below W.heap.size W w') (by kernel_rfl) (below_drewN (Below.refl _ W) 1) (fun hH => ?_)
  refine wpAnyH_take (i := 0) (v := .pointer (some ⟨t1, 0, none⟩)) rfl (by kernel_rfl) (by kernel_rfl) (by kernel_rfl) (fun _ _ _ h => h) (.inl ⟨by rfl, fun _ _ => by kernel_rfl⟩) hH ?_
  (try simp only [List.getElem_toArray, List.getElem_cons_zero, Act.put, List.setIfInBounds_toArray, List.set_cons_zero, List.set_cons_succ])
  refine wpAnyH_take (i := 1) (v := .slice (some ⟨b, o, none⟩) n c) rfl (by kernel_rfl) (by kernel_rfl) (by kernel_rfl) (fun _ _ _ h => h) (yieldsIf_loadP (by rfl) _ rfl rfl (fun _ q => load_nodes ((K1.out.below q K1.out.lt).cell 0))) hH ?_
  (try simp only [List.getElem_toArray, List.getElem_cons_zero, List.getElem_cons_succ, Act.put, List.setIfInBounds_toArray, List.set_cons_zero, List.set_cons_succ])
  refine wpAnyH_take (i := 2) (v := .int .i64 (k : Int)) rfl (by kernel_rfl) (by kernel_rfl) (by kernel_rfl) (fun _ _ _ h => h) (.inl ⟨by rfl, fun _ _ => by kernel_rfl⟩) hH ?_
  (try simp only [List.getElem_toArray, List.getElem_cons_zero, List.getElem_cons_succ, Act.put, List.setIfInBounds_toArray, List.set_cons_zero, List.set_cons_succ])
  refine wpAnyH_take (i := 3) (v := .pointer (some ⟨b, o + k * 7, none⟩)) rfl (by kernel_rfl) (by kernel_rfl) (by kernel_rfl) (fun _ _ _ h => h) (yieldsIf_index Try.underlying25 sz_node (by rfl) _ _ rfl rfl rfl hk) hH ?_
  (try simp only [List.getElem_toArray, List.getElem_cons_zero, List.getElem_cons_succ, Act.put, List.setIfInBounds_toArray, List.set_cons_zero, List.set_cons_succ])
  refine wpAnyH_take (i := 4) (v := .pointer (some ⟨b, o + k * 7, none⟩)) rfl (by kernel_rfl) (by kernel_rfl) (by kernel_rfl) (fun _ _ _ h => h) (.inl ⟨by rfl, fun _ _ => by kernel_rfl⟩) hH ?_
  (try simp only [List.getElem_toArray, List.getElem_cons_zero, List.getElem_cons_succ, Act.put, List.setIfInBounds_toArray, List.set_cons_zero, List.set_cons_succ])
  refine wpAnyH_take (i := 5) (v := .pointer (some ⟨b, o + k * 7, none⟩)) rfl (by kernel_rfl) (by kernel_rfl) (by kernel_rfl) (fun _ _ _ h => h) (.inl ⟨by rfl, fun _ _ => by kernel_rfl⟩) hH ?_
  (try simp only [List.getElem_toArray, List.getElem_cons_zero, List.getElem_cons_succ, Act.put, List.setIfInBounds_toArray, List.set_cons_zero, List.set_cons_succ])
  refine wpAnyH_take (i := 6) (v := .int .u64 (nAt ns k).id) rfl (by kernel_rfl) (by kernel_rfl) (by kernel_rfl) (fun _ _ _ h => h) (yieldsIf_loadP (by rfl) _ rfl rfl (fun _ q => load_u64 (HID.out _ q))) hH ?_
  (try simp only [List.getElem_toArray, List.getElem_cons_zero, List.getElem_cons_succ, Act.put, List.setIfInBounds_toArray, List.set_cons_zero, List.set_cons_succ])
  refine wpAnyH_take (i := 7) (v := .pointer (some ⟨t2, 0, none⟩)) rfl (by kernel_rfl) (by kernel_rfl) (by kernel_rfl) (fun _ _ _ h => h) (.inl ⟨by rfl, fun _ _ => by kernel_rfl⟩) hH ?_
  (try simp only [List.getElem_toArray, List.getElem_cons_zero, List.getElem_cons_succ, Act.put, List.setIfInBounds_toArray, List.set_cons_zero, List.set_cons_succ])
  refine wpAnyH_take (i := 8) (v := .int .u64 id) rfl (by kernel_rfl) (by kernel_rfl) (by kernel_rfl) (fun _ _ _ h => h) (yieldsIf_loadP (by rfl) _ rfl rfl (fun _ q => load_u64 ((K2.out.below q K2.out.lt).cell 0))) hH ?_
  (try simp only [List.getElem_toArray, List.getElem_cons_zero, List.getElem_cons_succ, Act.put, List.setIfInBounds_toArray, List.set_cons_zero, List.set_cons_succ])
  refine wpAnyH_take (i := 9) (v := .bool ((nAt ns k).id == id)) rfl (by kernel_rfl) (by kernel_rfl) (by kernel_rfl) (fun _ _ _ h => h) (yieldsIf_eqlR (by rfl) _ _ rfl rfl rfl rfl) hH ?_
  (try simp only [List.getElem_toArray, List.getElem_cons_zero, List.getElem_cons_succ, Act.put, List.setIfInBounds_toArray, List.set_cons_zero, List.set_cons_succ])
  refine wpAnyH_take (i := 10) (v := .bool ((nAt ns k).id == id)) rfl (by kernel_rfl) (by kernel_rfl) (by kernel_rfl) (fun _ _ _ h => h) (.inl ⟨by rfl, fun _ _ => by kernel_rfl⟩) hH ?_
  (try simp only [List.getElem_toArray, List.getElem_cons_zero, List.getElem_cons_succ, Act.put, List.setIfInBounds_toArray, List.set_cons_zero, List.set_cons_succ])
  refine wpAnyH_done (by kernel_rfl) ?_ _
  have HB := Lib.hid hH
  clear hH
  go_wp2_with fail
  go_ret
  exact ⟨rfl, HB.out⟩
/-- Whether an id is there. -/
def hasId (ns : List ND) (id : Int) : Bool := (liveI ns).any fun x => idI ns x == id
/-- The least slot that is not there: behind the first j that are. -/
def slotJ (ns : List ND) (j : Nat) : Nat := ((liveI ns).take j).foldl (fun s x => if x == (s : Int) then s + 1 else s) 1
def slotI (ns : List ND) : Nat := slotJ ns (liveI ns).length
theorem slotJ_succ {ns : List ND} {j : Nat} (hj : j < (liveI ns).length) : slotJ ns (j + 1) = if ig (liveI ns) j == (slotJ ns j : Int) then slotJ ns j + 1 else slotJ ns j := by
  unfold slotJ
  rw [take_step hj, List.foldl_append]
  rfl
theorem slotJ_le (ns : List ND) : ∀ j, 1 ≤ slotJ ns j ∧ slotJ ns j ≤ j + 1
  | 0 => by unfold slotJ; simp
  | j + 1 => by
    by_cases hj : j < (liveI ns).length
    · rw [slotJ_succ hj]
      have := slotJ_le ns j
      split <;> omega
    · have e : slotJ ns (j + 1) = slotJ ns j := by unfold slotJ; rw [List.take_of_length_le (by omega), List.take_of_length_le (by omega)]
      rw [e]
      have := slotJ_le ns j
      omega
end Go.Proofs.Ytckclflbcgblaaa
