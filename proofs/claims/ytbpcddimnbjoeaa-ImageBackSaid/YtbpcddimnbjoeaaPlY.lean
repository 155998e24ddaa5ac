/- Planes: whether a node's list is right. -/
import Derived.Test.YtbpcddimnbjoeaaPlV
namespace Go.Proofs.Ytbpcddimnbjoeaa
open Go.RowKit Go.Maps Go.ChangeMaps Go.MapKept
set_option maxRecDepth 100000 in
set_option maxHeartbeats 4000000 in
theorem pl_list (A : Option Addr) (n c : Nat) (ns : List ND) (en tp : Int) (slot level : Nat) (links : Int) (w : World) (hg : PgAt w w.heap.size A n c ns) (hs : slot < n) (hl : level < (nAt ns slot).ln) :
    Calls Try.prog 37 #[.agg (pgL A n c en tp), .int .i64 slot, .int .i64 level, .int .i64 links] w (RetB (listB ns slot level links) w) := by
  obtain ⟨w3, hw3⟩ : ∃ x, ((w.alloc (.cells (pgL A n c en tp) 24)).alloc (.cells #[.int .i64 slot] 3)).alloc (.cells #[.int .i64 level] 3) = x := ⟨_, rfl⟩
  have s1 : (w.alloc (.cells (pgL A n c en tp) 24)).heap.size = w.heap.size + 1 := by simp only [World.alloc, Array.size_push]
  have s2 : ((w.alloc (.cells (pgL A n c en tp) 24)).alloc (.cells #[.int .i64 slot] 3)).heap.size = w.heap.size + 1 + 1 := by simp only [World.alloc, Array.size_push]
  have k1 : Blk w3 w.heap.size 24 (pgL A n c en tp) := by rw [← hw3]; exact ((Blk.new _ _ _).alloc _).alloc _
  have k3 : Blk w3 (w.heap.size + 1) 3 #[.int .i64 slot] := by rw [← hw3, ← s1]; exact (Blk.new _ _ _).alloc _
  have k2 : Blk w3 (w.heap.size + 1 + 1) 3 #[.int .i64 level] := by rw [← hw3, ← s2]; exact Blk.new _ _ _
  have b3 : Below w.heap.size w w3 := by rw [← hw3]; exact (((bel_box w _).alloc (by rw [s1]; omega) _).alloc (by rw [s2]; omega) _)
  have hg3 := hg.on b3 b3.size
  obtain ⟨b, o, rfl, hb, hcl, hda⟩ := hg3.lists hs
  obtain ⟨b2, o2, hLA, hb2, hc2, hla⟩ := nd_list hda hl
  have HCL : Hid (∀ Y, Below w3.heap.size w3 Y → Y.cell? ⟨b, o + slot * 7 + 4, none⟩ = some (.slice (some ⟨b2, o2, none⟩) (nAt ns slot).ln (nAt ns slot).lc)) := fun Y hY => by rw [← hLA]; exact (hY.cell (p := ⟨b, o + slot * 7 + 4, none⟩) hb).trans hcl
  have HC2 : Hid (∀ Y, Below w3.heap.size w3 Y → Y.cell? ⟨b2, o2 + level * 1, none⟩ = some (.slice (lsAt (nAt ns slot) level).A (lsAt (nAt ns slot) level).n (lsAt (nAt ns slot) level).c)) := fun Y hY => by rw [Nat.mul_one]; exact (hY.cell (p := ⟨b2, o2 + level, none⟩) hb2).trans hc2
  have HG := Lib.hid hg3
  have K1 := Lib.hid k1
  have K2 := Lib.hid k2
  have K3 := Lib.hid k3
  have HLA := Lib.hid hla
  have HB3 := Lib.hid b3
  have HL := Lib.hid hg.len
  have hn := hg.2.1
  have c0 : w3.cell? ⟨w.heap.size, 0, none⟩ = some (.slice (some ⟨b, o, none⟩) n c) := k1.cell 0
  clear hg hg3 k1 k2 k3 b3 hcl hda hLA hc2 hla s1 s2 hb hb2
  obtain ⟨l, hle⟩ : ∃ l, lsAt (nAt ns slot) level = l := ⟨_, rfl⟩
  have hLB : Hid (listB ns slot level links = (rightB l.xs slot links level ((ns.length : Int) - 1) && l.xs.all (backB ns slot level))) := by show _ = _; unfold listB; rw [hle]
  rw [hle] at HC2 HLA
  obtain ⟨lA, ln, lc, xs⟩ := l
  have hll : ln ≤ 1048576 := HLA.out.2.1
  have hlr : Hid (∀ Y, Below w3.heap.size w3 Y → Rd Y Y.heap.size lA ln (xs.map (.int .i64))) := fun Y hY => (HLA.out.2.2.1.below hY).more hY.size
  have hlw : Hid (∀ x ∈ xs, (Lit.int .i64 x).wf = true) := HLA.out.2.2.2
  have hll2 := Lib.hid HLA.out.len
  clear hle HLA
  unfold pgL at hw3 ⊢
  go_enter Try.func37, Try.ntmps37
  go_upto_region 1 with fail
  (try rw [hw3])
  clear hw3
  refine wp_region_held_drew (S := fun w' => Below w3.heap.size w3 w') (by kernel_rfl) (below_drewN (Below.refl _ w3) 1) (fun hH => ?_)
  refine wpAnyH_take (i := 0) (v := .pointer (some ⟨w.heap.size, 0, none⟩)) rfl (by kernel_rfl) (by kernel_rfl) (by kernel_rfl) (fun _ _ _ h => h) (.inl ⟨by rfl, fun _ _ => by kernel_rfl⟩) hH ?_
  (try simp only [List.getElem_toArray, List.getElem_cons_zero, Act.put, List.setIfInBounds_toArray, List.set_cons_zero, List.set_cons_succ])
  refine wpAnyH_take (i := 1) (v := .slice (some ⟨b, o, none⟩) n c) rfl (by kernel_rfl) (by kernel_rfl) (by kernel_rfl) (fun _ _ _ h => h) (yieldsIf_loadP (by rfl) _ rfl rfl (fun _ q => load_nodes ((K1.out.below q K1.out.lt).cell 0))) hH ?_
  (try simp only [List.getElem_toArray, List.getElem_cons_zero, List.getElem_cons_succ, Act.put, List.setIfInBounds_toArray, List.set_cons_zero, List.set_cons_succ])
  refine wpAnyH_take (i := 2) (v := .int .i64 slot) rfl (by kernel_rfl) (by kernel_rfl) (by kernel_rfl) (fun _ _ _ h => h) (yieldsIf_loadP (by rfl) _ rfl rfl (fun _ q => load_i64 ((K3.out.below q K3.out.lt).cell 0))) hH ?_
  (try simp only [List.getElem_toArray, List.getElem_cons_zero, List.getElem_cons_succ, Act.put, List.setIfInBounds_toArray, List.set_cons_zero, List.set_cons_succ])
  refine wpAnyH_take (i := 3) (v := .pointer (some ⟨b, o + slot * 7, none⟩)) rfl (by kernel_rfl) (by kernel_rfl) (by kernel_rfl) (fun _ _ _ h => h) (yieldsIf_index Try.underlying22 sz_node (by rfl) _ _ rfl rfl rfl hs) hH ?_
  (try simp only [List.getElem_toArray, List.getElem_cons_zero, List.getElem_cons_succ, Act.put, List.setIfInBounds_toArray, List.set_cons_zero, List.set_cons_succ])
  refine wpAnyH_take (i := 4) (v := .pointer (some ⟨b, o + slot * 7 + 4, none⟩)) rfl (by kernel_rfl) (by kernel_rfl) (by kernel_rfl) (fun _ _ _ h => h) (.inl ⟨by rfl, fun _ _ => by kernel_rfl⟩) hH ?_
  (try simp only [List.getElem_toArray, List.getElem_cons_zero, List.getElem_cons_succ, Act.put, List.setIfInBounds_toArray, List.set_cons_zero, List.set_cons_succ])
  refine wpAnyH_take (i := 5) (v := .slice (some ⟨b2, o2, none⟩) (nAt ns slot).ln (nAt ns slot).lc) rfl (by kernel_rfl) (by kernel_rfl) (by kernel_rfl) (fun _ _ _ h => h) (yieldsIf_loadP (by rfl) _ rfl rfl (fun _ q => load_lists (HCL.out _ q))) hH ?_
  (try simp only [List.getElem_toArray, List.getElem_cons_zero, List.getElem_cons_succ, Act.put, List.setIfInBounds_toArray, List.set_cons_zero, List.set_cons_succ])
  refine wpAnyH_take (i := 6) (v := .int .i64 level) rfl (by kernel_rfl) (by kernel_rfl) (by kernel_rfl) (fun _ _ _ h => h) (yieldsIf_loadP (by rfl) _ rfl rfl (fun _ q => load_i64 ((K2.out.below q K2.out.lt).cell 0))) hH ?_
  (try simp only [List.getElem_toArray, List.getElem_cons_zero, List.getElem_cons_succ, Act.put, List.setIfInBounds_toArray, List.set_cons_zero, List.set_cons_succ])
  refine wpAnyH_take (i := 7) (v := .pointer (some ⟨b2, o2 + level * 1, none⟩)) rfl (by kernel_rfl) (by kernel_rfl) (by kernel_rfl) (fun _ _ _ h => h) (yieldsIf_index Try.underlying40 sz_list (by rfl) _ _ rfl rfl rfl hl) hH ?_
  (try simp only [List.getElem_toArray, List.getElem_cons_zero, List.getElem_cons_succ, Act.put, List.setIfInBounds_toArray, List.set_cons_zero, List.set_cons_succ])
  refine wpAnyH_take (i := 8) (v := .slice lA ln lc) rfl (by kernel_rfl) (by kernel_rfl) (by kernel_rfl) (fun _ _ _ h => h) (yieldsIf_loadP (by rfl) _ rfl rfl (fun _ q => load_ints (HC2.out _ q))) hH ?_
  (try simp only [List.getElem_toArray, List.getElem_cons_zero, List.getElem_cons_succ, Act.put, List.setIfInBounds_toArray, List.set_cons_zero, List.set_cons_succ])
  refine wpAnyH_take (i := 9) (v := .slice lA ln lc) rfl (by kernel_rfl) (by kernel_rfl) (by kernel_rfl) (fun _ _ _ h => h) (.inl ⟨by rfl, fun _ _ => by kernel_rfl⟩) hH ?_
  (try simp only [List.getElem_toArray, List.getElem_cons_zero, List.getElem_cons_succ, Act.put, List.setIfInBounds_toArray, List.set_cons_zero, List.set_cons_succ])
  refine wpAnyH_done (by kernel_rfl) ?_ _
  have HH := Lib.hid hH
  obtain ⟨Wd, hWd⟩ : ∃ x, w3.drew = x := ⟨_, rfl⟩
  rw [hWd] at HH ⊢
  have HRT := pl_right lA ln lc xs slot links level ((n : Int) - 1) Wd (hlr.out Wd HH.out) hll hlw.out
  have hrv : rightB xs slot links level ((n : Int) - 1) = rightB xs slot links level ((ns.length : Int) - 1) := by rw [HL.out]
  have d0 : Wd.cell? ⟨w.heap.size, 0, none⟩ = some (.slice (some ⟨b, o, none⟩) n c) := (K1.out.below HH.out K1.out.lt).cell 0
  have d1 : Wd.cell? ⟨w.heap.size + 1, 0, none⟩ = some (.int .i64 slot) := (K3.out.below HH.out K3.out.lt).cell 0
  have d2 : Wd.cell? ⟨w.heap.size + 1 + 1, 0, none⟩ = some (.int .i64 level) := (K2.out.below HH.out K2.out.lt).cell 0
  obtain ⟨r1, hr1⟩ : ∃ r, rightB xs slot links level ((n : Int) - 1) = r := ⟨_, rfl⟩
  rw [hr1] at HRT hrv
  replace HRT := Lib.hid HRT
  cases r1 with
  | false =>
    have HV : Hid (listB ns slot level links = false) := by show _ = _; rw [hLB.out, ← hrv]; rfl
    clear hr1 hrv hWd hH c0
    go_wp2_with (go_at_call 64; refine HRT.out.mono ?_; rintro e w5 ⟨rfl, b5⟩; have HB5 := Lib.hid (HH.out.trans (b5.mono HH.out.size)); clear b5)
    go_ret
    exact ⟨by rw [HV.out]; rfl, HB3.out.trans (HB5.out.mono HB3.out.size)⟩
  | true =>
    have HV : Hid (listB ns slot level links = xs.all (backB ns slot level)) := by show _ = _; rw [hLB.out, ← hrv]; rfl
    have hcn := fun (Y : World) (hY : Below w3.heap.size w3 Y) => cnt_func lA ln lc xs 66 #[.pointer (some ⟨w.heap.size, 0, none⟩), .pointer (some ⟨w.heap.size + 1 + 1, 0, none⟩), .pointer (some ⟨w.heap.size + 1, 0, none⟩)] (fun i => !backB ns slot level (ig xs i)) (fun _ Z => Below w3.heap.size w3 Z) Y (by omega)
      (enters_of Try.func66 (by kernel_rfl) rfl) (fun _ Z hZ => hlr.out Z hZ)
      (fun i Z hi hZ => (list_cl (ig xs i) (some ⟨b, o, none⟩) n c ns en tp slot level w.heap.size (w.heap.size + 1 + 1) (w.heap.size + 1) Z (HG.out.on hZ hZ.size) (K1.out.below hZ K1.out.lt) (K2.out.below hZ K2.out.lt) (K3.out.below hZ K3.out.lt)).mono fun e w' ⟨h1, h2⟩ => ⟨h1, hZ.trans (h2.mono hZ.size)⟩) hY
    have HCN := Lib.hid hcn
    clear hr1 hrv hWd hH c0 hcn
    go_wp2_with (first
      | (go_at_call 64; refine HRT.out.mono ?_; rintro e w5 ⟨rfl, b5⟩; have HB5 := Lib.hid (HH.out.trans (b5.mono HH.out.size)); have HCC := Lib.hid (HCN.out w5 HB5.out); clear b5))
    refine HCC.out.mono ?_
    rintro e w6 (⟨hall, rfl, hk⟩ | ⟨i, hi, hqi, _, rfl, hk⟩)
    · have HA : Hid (xs.all (backB ns slot level) = true) := back_all fun k hk => by have := hall k (by rw [← hll2.out]; exact hk); simpa using this
      have HK := Lib.hid hk
      clear hall hk
      go_wp2_with fail
      go_ret
      exact ⟨by rw [HV.out, HA.out]; rfl, HB3.out.trans (HK.out.mono HB3.out.size)⟩
    · have HA : Hid (xs.all (backB ns slot level) = false) := back_bad (k := i) (by rw [hll2.out]; exact hi) (by simpa using hqi)
      have HK := Lib.hid hk
      clear hqi hk
      go_wp2_with fail
      go_ret
      exact ⟨by rw [HV.out, HA.out]; rfl, HB3.out.trans (HK.out.mono HB3.out.size)⟩
end Go.Proofs.Ytbpcddimnbjoeaa
