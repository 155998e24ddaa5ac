/- Planes: the answers that the document gives. Printed by genPmU.py. -/
import Derived.Test.YtkhnnjeinpojkaaPmT
namespace Go.Proofs.Ytkhnnjeinpojkaa
open Go.RowKit Go.Maps Go.ChangeMaps Go.MapKept
def q1 : List ND := putSt [nd0] 1 (putND [nd0] 5 0 [] 0 1)
def q2 : List ND := putSt q1 2 (putND q1 6 0 [] 0 1)
def q3 : List ND := linkSt q2 1 2 1
def q4 : List ND := dropSt q3 1
theorem qf1 : putW [nd0] 1 0 0 1 5 = 0 ∧ slotI [nd0] = 1 := by decide +kernel
theorem qf2 : putW q1 1 0 0 1 6 = 0 ∧ slotI q1 = 2 := by decide +kernel
theorem qf3 : putW q2 1 0 0 0 6 = 2 ∧ putW q2 1 0 0 8 7 = 6 := by decide +kernel
theorem qf4 : linkB q2 1 0 0 1 2 1 = true ∧ linkB q3 1 0 0 2 1 1 = false := by decide +kernel
theorem qf5 : dropB q3 1 0 0 1 = true ∧ dropB q4 1 0 0 1 = false := by decide +kernel
theorem qf6 : ringI q2 = [2, 1] ∧ nearI q3 1 1 = [2] ∧ nearI q3 0 0 = [2, 1] ∧ chkW q3 1 0 0 = 0 ∧ liveI q4 = [2] ∧ thB q4 1 = false ∧ nearI q4 2 1 = [] := by decide +kernel
theorem qn2 : q2.length = 3 ∧ q3.length = 3 ∧ q4.length = 3 := by decide +kernel
theorem nil_at (w : World) : PgAt w w.heap.size none 0 0 [] := ⟨fun _ => ⟨rfl, rfl⟩, Nat.zero_le _, Rs.nil_, (fun d hd => by cases hd)⟩
theorem chk_nil (w : World) : Calls Try.prog 22 #[.agg #[.slice none 0 0, .int .i64 0, .int .i64 0], .int .i64 1] w (RetE 7 w) := pl_check none 0 0 [] 0 0 1 w (nil_at w)
theorem same_refl (xs : List Int) : sameB xs xs = true := by unfold sameB; exact decide_eq_true rfl
set_option maxRecDepth 100000 in
set_option maxHeartbeats 4000000 in
theorem lives12 (w : World) : Calls Try.prog 21 #[] w (RetB true w) := by
  have HB : Hid (Below w.heap.size w w) := Below.refl _ _
  go_enter Try.func21, Try.ntmps21
  have HC := Lib.hid (new_e (w := w))
  go_wp2_with (go_at_call 33; (with_reducible refine HC.out.mono ?_); rintro e W0 ⟨g0, n0, c0, rfl, hp0, hb⟩; have HP0 := Lib.hid hp0; replace HB := Lib.hid (HB.out.trans (hb.mono HB.out.size)); clear hp0 hb)
  clear HC
  have HC := Lib.hid (put_e HP0.out 1 1 5 none 0 0 [] 0 (vec0 W0) (by decide) qf1.1 qf1.2)
  go_wp2_with (first | ((with_reducible refine wpList_storeE (op := ⟨none, _, _, _, _, _⟩) SR ?s1X ?s1Y ?s1G ?s1O ?s1A ?s1B ?_); (case s1O => exact rfl); (case s1A => exact rfl); (case s1B => exact rfl); (case s1G => exact rfl)) | ((with_reducible refine wpList_loadE (op := ⟨some 29, _, _, _, _, _⟩) LP ?e2X ?e2G ?e2O ?e2E ?_); (case e2O => exact rfl); (case e2E => exact rfl); (case e2G => exact rfl)) | (go_at_call 34; (with_reducible refine HC.out.mono ?_); rintro e W1 ⟨g1, n1, c1, rfl, hp, hb⟩; replace HB := Lib.hid (HB.out.trans (hb.mono HB.out.size)); have SR := plane_put W1 (some ⟨g1, 0, none⟩) n1 c1 0 0; have NP := PV.new (en := 0) (tp := 0) hp; have NB := plane_bel W1 (some ⟨g1, 0, none⟩) n1 c1 0 0; obtain ⟨X1, hX⟩ : ∃ x, ((W1.alloc (.cells (pgL none 0 0 0 0) 56)).setCells W1.heap.size 0 (pgL (some ⟨g1, 0, none⟩) n1 c1 0 0).toList) = x := ⟨_, rfl⟩; rw [hX] at SR NP NB; replace HB := Lib.hid (HB.out.trans (NB.mono HB.out.size)); have Pa : Hid (PV X1 W1.heap.size g1 n1 c1 0 0 q1) := NP; have LP := Pa.out.load; clear hX NP NB hp hb))
  clear HC SR LP
  clear HP0
  have HC := Lib.hid (put_e Pa.out.pge 1 1 6 none 0 0 [] 0 (vec0 X1) (by decide) qf2.1 qf2.2)
  go_wp2_with (first | ((with_reducible refine wpList_storeE (op := ⟨none, _, _, _, _, _⟩) SR ?s3X ?s3Y ?s3G ?s3O ?s3A ?s3B ?_); (case s3O => exact rfl); (case s3A => exact rfl); (case s3B => exact rfl); (case s3G => exact rfl)) | ((with_reducible refine wpList_loadE (op := ⟨some 36, _, _, _, _, _⟩) LP ?e4X ?e4G ?e4O ?e4E ?_); (case e4O => exact rfl); (case e4E => exact rfl); (case e4G => exact rfl)) | (go_at_call 34; (with_reducible refine HC.out.mono ?_); rintro e W2 ⟨g2, n2, c2, rfl, hp, hb⟩; replace Pa := Lib.hid (Pa.out.below hb); replace HB := Lib.hid (HB.out.trans (hb.mono HB.out.size)); have SR := plane_put W2 (some ⟨g2, 0, none⟩) n2 c2 0 0; have NP := PV.new (en := 0) (tp := 0) hp; have NB := plane_bel W2 (some ⟨g2, 0, none⟩) n2 c2 0 0; obtain ⟨X2, hX⟩ : ∃ x, ((W2.alloc (.cells (pgL none 0 0 0 0) 56)).setCells W2.heap.size 0 (pgL (some ⟨g2, 0, none⟩) n2 c2 0 0).toList) = x := ⟨_, rfl⟩; rw [hX] at SR NP NB; replace Pa := Lib.hid (Pa.out.below NB); replace HB := Lib.hid (HB.out.trans (NB.mono HB.out.size)); have Pb : Hid (PV X2 W2.heap.size g2 n2 c2 0 0 q2) := NP; have LP := Pb.out.load; clear hX NP NB hp hb))
  clear HC SR LP
  have HC := Lib.hid (put_no Pb.out.pge 1 0 6 none 0 0 [] 0 (vec0 X2) (by decide) qf3.1 (by decide))
  go_wp2_with (first | ((with_reducible refine wpList_storeE (op := ⟨none, _, _, _, _, _⟩) SR ?s5X ?s5Y ?s5G ?s5O ?s5A ?s5B ?_); (case s5O => exact rfl); (case s5A => exact rfl); (case s5B => exact rfl); (case s5G => exact rfl)) | ((with_reducible refine wpList_loadE (op := ⟨some 43, _, _, _, _, _⟩) LP ?e6X ?e6G ?e6O ?e6E ?_); (case e6O => exact rfl); (case e6E => exact rfl); (case e6G => exact rfl)) | (go_at_call 34; (with_reducible refine HC.out.mono ?_); rintro e W3 ⟨rfl, hb⟩; replace Pa := Lib.hid (Pa.out.below hb); replace Pb := Lib.hid (Pb.out.below hb); replace HB := Lib.hid (HB.out.trans (hb.mono HB.out.size)); have SR := plane_put W3 none 0 0 0 0; have NB := plane_bel W3 none 0 0 0 0; obtain ⟨X3, hX⟩ : ∃ x, ((W3.alloc (.cells (pgL none 0 0 0 0) 56)).setCells W3.heap.size 0 (pgL none 0 0 0 0).toList) = x := ⟨_, rfl⟩; rw [hX] at SR NB; replace Pa := Lib.hid (Pa.out.below NB); replace Pb := Lib.hid (Pb.out.below NB); replace HB := Lib.hid (HB.out.trans (NB.mono HB.out.size)); have LP := Pb.out.load; clear hX NB hb))
  clear HC SR LP
  have HC := Lib.hid (put_no Pb.out.pge 1 8 7 none 0 0 [] 0 (vec0 X3) (by decide) qf3.2 (by decide))
  go_wp2_with (first | ((with_reducible refine wpList_storeE (op := ⟨none, _, _, _, _, _⟩) SR ?s7X ?s7Y ?s7G ?s7O ?s7A ?s7B ?_); (case s7O => exact rfl); (case s7A => exact rfl); (case s7B => exact rfl); (case s7G => exact rfl)) | ((with_reducible refine wpList_loadE (op := ⟨some 50, _, _, _, _, _⟩) LP ?e8X ?e8G ?e8O ?e8E ?_); (case e8O => exact rfl); (case e8E => exact rfl); (case e8G => exact rfl)) | (go_at_call 34; (with_reducible refine HC.out.mono ?_); rintro e W4 ⟨rfl, hb⟩; replace Pa := Lib.hid (Pa.out.below hb); replace Pb := Lib.hid (Pb.out.below hb); replace HB := Lib.hid (HB.out.trans (hb.mono HB.out.size)); have SR := plane_put W4 none 0 0 0 0; have NB := plane_bel W4 none 0 0 0 0; obtain ⟨X4, hX⟩ : ∃ x, ((W4.alloc (.cells (pgL none 0 0 0 0) 56)).setCells W4.heap.size 0 (pgL none 0 0 0 0).toList) = x := ⟨_, rfl⟩; rw [hX] at SR NB; replace Pa := Lib.hid (Pa.out.below NB); replace Pb := Lib.hid (Pb.out.below NB); replace HB := Lib.hid (HB.out.trans (NB.mono HB.out.size)); have LP := Pb.out.load; clear hX NB hb))
  clear HC SR LP
  have HC := Lib.hid (link_e Pb.out.pge (by have h := Pb.out.pge.len; have h2 := qn2.1; have h3 : q2.length = n2 := h; omega) 1 1 2 1 qf4.1)
  go_wp2_with (first | ((with_reducible refine wpList_storeE (op := ⟨none, _, _, _, _, _⟩) SR ?s9X ?s9Y ?s9G ?s9O ?s9A ?s9B ?_); (case s9O => exact rfl); (case s9A => exact rfl); (case s9B => exact rfl); (case s9G => exact rfl)) | ((with_reducible refine wpList_loadE (op := ⟨some 55, _, _, _, _, _⟩) LP ?e10X ?e10G ?e10O ?e10E ?_); (case e10O => exact rfl); (case e10E => exact rfl); (case e10G => exact rfl)) | (go_at_call 35; (with_reducible refine HC.out.mono ?_); rintro e W5 ⟨g5, n5, c5, rfl, hp, hb⟩; replace Pa := Lib.hid (Pa.out.below hb); replace Pb := Lib.hid (Pb.out.below hb); replace HB := Lib.hid (HB.out.trans (hb.mono HB.out.size)); have SR := plane_put W5 (some ⟨g5, 0, none⟩) n5 c5 0 0; have NP := PV.new (en := 0) (tp := 0) hp; have NB := plane_bel W5 (some ⟨g5, 0, none⟩) n5 c5 0 0; obtain ⟨X5, hX⟩ : ∃ x, ((W5.alloc (.cells (pgL none 0 0 0 0) 56)).setCells W5.heap.size 0 (pgL (some ⟨g5, 0, none⟩) n5 c5 0 0).toList) = x := ⟨_, rfl⟩; rw [hX] at SR NP NB; replace Pa := Lib.hid (Pa.out.below NB); replace Pb := Lib.hid (Pb.out.below NB); replace HB := Lib.hid (HB.out.trans (NB.mono HB.out.size)); have Pc : Hid (PV X5 W5.heap.size g5 n5 c5 0 0 q3) := NP; have LP := Pc.out.load; clear hX NP NB hp hb))
  clear HC SR LP
  have HC := Lib.hid (link_e Pc.out.pge (by have h := Pc.out.pge.len; have h2 := qn2.2.1; have h3 : q3.length = n5 := h; omega) 1 2 1 1 qf4.2)
  go_wp2_with (first | ((with_reducible refine wpList_storeE (op := ⟨none, _, _, _, _, _⟩) SR ?s11X ?s11Y ?s11G ?s11O ?s11A ?s11B ?_); (case s11O => exact rfl); (case s11A => exact rfl); (case s11B => exact rfl); (case s11G => exact rfl)) | ((with_reducible refine wpList_loadE (op := ⟨some 60, _, _, _, _, _⟩) LP ?e12X ?e12G ?e12O ?e12E ?_); (case e12O => exact rfl); (case e12E => exact rfl); (case e12G => exact rfl)) | (go_at_call 35; (with_reducible refine HC.out.mono ?_); rintro e W6 ⟨g6, n6, c6, rfl, hp, hb⟩; replace Pa := Lib.hid (Pa.out.below hb); replace Pb := Lib.hid (Pb.out.below hb); replace Pc := Lib.hid (Pc.out.below hb); replace HB := Lib.hid (HB.out.trans (hb.mono HB.out.size)); have SR := plane_put W6 (some ⟨g6, 0, none⟩) n6 c6 0 0; have NP := PV.new (en := 0) (tp := 0) hp; have NB := plane_bel W6 (some ⟨g6, 0, none⟩) n6 c6 0 0; obtain ⟨X6, hX⟩ : ∃ x, ((W6.alloc (.cells (pgL none 0 0 0 0) 56)).setCells W6.heap.size 0 (pgL (some ⟨g6, 0, none⟩) n6 c6 0 0).toList) = x := ⟨_, rfl⟩; rw [hX] at SR NP NB; replace Pa := Lib.hid (Pa.out.below NB); replace Pb := Lib.hid (Pb.out.below NB); replace Pc := Lib.hid (Pc.out.below NB); replace HB := Lib.hid (HB.out.trans (NB.mono HB.out.size)); have Px : Hid (PV X6 W6.heap.size g6 n6 c6 0 0 q3) := NP; have LP := Pc.out.load; clear hX NP NB hp hb))
  clear HC SR LP
  have HC := Lib.hid (drop_e Pc.out.pge (by have h := Pc.out.pge.len; have h2 := qn2.2.1; have h3 : q3.length = n5 := h; omega) 1 1 qf5.1)
  go_wp2_with (first | ((with_reducible refine wpList_storeE (op := ⟨none, _, _, _, _, _⟩) SR ?s13X ?s13Y ?s13G ?s13O ?s13A ?s13B ?_); (case s13O => exact rfl); (case s13A => exact rfl); (case s13B => exact rfl); (case s13G => exact rfl)) | ((with_reducible refine wpList_loadE (op := ⟨some 65, _, _, _, _, _⟩) LP ?e14X ?e14G ?e14O ?e14E ?_); (case e14O => exact rfl); (case e14E => exact rfl); (case e14G => exact rfl)) | (go_at_call 37; (with_reducible refine HC.out.mono ?_); rintro e W7 ⟨g7, n7, c7, rfl, hp, hb⟩; replace Pa := Lib.hid (Pa.out.below hb); replace Pb := Lib.hid (Pb.out.below hb); replace Pc := Lib.hid (Pc.out.below hb); replace Px := Lib.hid (Px.out.below hb); replace HB := Lib.hid (HB.out.trans (hb.mono HB.out.size)); have SR := plane_put W7 (some ⟨g7, 0, none⟩) n7 c7 0 0; have NP := PV.new (en := 0) (tp := 0) hp; have NB := plane_bel W7 (some ⟨g7, 0, none⟩) n7 c7 0 0; obtain ⟨X7, hX⟩ : ∃ x, ((W7.alloc (.cells (pgL none 0 0 0 0) 56)).setCells W7.heap.size 0 (pgL (some ⟨g7, 0, none⟩) n7 c7 0 0).toList) = x := ⟨_, rfl⟩; rw [hX] at SR NP NB; replace Pa := Lib.hid (Pa.out.below NB); replace Pb := Lib.hid (Pb.out.below NB); replace Pc := Lib.hid (Pc.out.below NB); replace Px := Lib.hid (Px.out.below NB); replace HB := Lib.hid (HB.out.trans (NB.mono HB.out.size)); have Pd : Hid (PV X7 W7.heap.size g7 n7 c7 0 0 q4) := NP; have LP := Pd.out.load; clear hX NP NB hp hb))
  clear HC SR LP
  have HC := Lib.hid (drop_e Pd.out.pge (by have h := Pd.out.pge.len; have h2 := qn2.2.2; have h3 : q4.length = n7 := h; omega) 1 1 qf5.2)
  go_wp2_with (first | ((with_reducible refine wpList_storeE (op := ⟨none, _, _, _, _, _⟩) SR ?s15X ?s15Y ?s15G ?s15O ?s15A ?s15B ?_); (case s15O => exact rfl); (case s15A => exact rfl); (case s15B => exact rfl); (case s15G => exact rfl)) | (go_at_call 37; (with_reducible refine HC.out.mono ?_); rintro e W8 ⟨g8, n8, c8, rfl, hp, hb⟩; replace Pa := Lib.hid (Pa.out.below hb); replace Pb := Lib.hid (Pb.out.below hb); replace Pc := Lib.hid (Pc.out.below hb); replace Px := Lib.hid (Px.out.below hb); replace Pd := Lib.hid (Pd.out.below hb); replace HB := Lib.hid (HB.out.trans (hb.mono HB.out.size)); have SR := plane_put W8 (some ⟨g8, 0, none⟩) n8 c8 0 0; have NP := PV.new (en := 0) (tp := 0) hp; have NB := plane_bel W8 (some ⟨g8, 0, none⟩) n8 c8 0 0; obtain ⟨X8, hX⟩ : ∃ x, ((W8.alloc (.cells (pgL none 0 0 0 0) 56)).setCells W8.heap.size 0 (pgL (some ⟨g8, 0, none⟩) n8 c8 0 0).toList) = x := ⟨_, rfl⟩; rw [hX] at SR NP NB; replace Pa := Lib.hid (Pa.out.below NB); replace Pb := Lib.hid (Pb.out.below NB); replace Pc := Lib.hid (Pc.out.below NB); replace Px := Lib.hid (Px.out.below NB); replace Pd := Lib.hid (Pd.out.below NB); replace HB := Lib.hid (HB.out.trans (NB.mono HB.out.size)); have Py : Hid (PV X8 W8.heap.size g8 n8 c8 0 0 q4) := NP; have z0 : X8.cell? ⟨W2.heap.size, 0, none⟩ = some (.slice (some ⟨g2, 0, none⟩) n2 c2) := Pb.out.blk.cell 0; have z1 : X8.cell? ⟨W2.heap.size, 1, none⟩ = some (.int .i64 0) := Pb.out.blk.cell 1; have z2 : X8.cell? ⟨W2.heap.size, 2, none⟩ = some (.int .i64 0) := Pb.out.blk.cell 2; clear hX NP NB hp hb))
  clear HC SR z0 z1 z2
  have HC := Lib.hid (ring_e (en := 0) (tp := 0) Pb.out.pge qf6.1)
  go_wp2_with (first | (go_at_call 29; (with_reducible refine HC.out.mono ?_); rintro e W9 ⟨A9, m9, d9, rfl, ho9, hb⟩; replace Pa := Lib.hid (Pa.out.below hb); replace Pb := Lib.hid (Pb.out.below hb); replace Pc := Lib.hid (Pc.out.below hb); replace Px := Lib.hid (Px.out.below hb); replace Pd := Lib.hid (Pd.out.below hb); replace Py := Lib.hid (Py.out.below hb); replace HB := Lib.hid (HB.out.trans (hb.mono HB.out.size)); have R9 := Lib.hid ho9.rd; have L9 := Lib.hid ho9.len; clear ho9; clear hb))
  clear HC
  have hbl := bel_box W9 (.cells ([2, 1].map (Value.int .i64)).toArray 3)
  have HC := Lib.hid (same_lit (c := d9) R9.out (by have h := L9.out; have h2 : ([2, 1] : List Int).length = m9 := h; have h3 : ([2, 1] : List Int).length = 2 := rfl; omega) [2, 1] 2 rfl (by decide) (same_refl [2, 1]))
  replace Pa := Lib.hid (Pa.out.below hbl)
  replace Pb := Lib.hid (Pb.out.below hbl)
  replace Pc := Lib.hid (Pc.out.below hbl)
  replace Px := Lib.hid (Px.out.below hbl)
  replace Pd := Lib.hid (Pd.out.below hbl)
  replace Py := Lib.hid (Py.out.below hbl)
  replace R9 := Lib.hid ((R9.out.below hbl).more hbl.size)
  replace HB := Lib.hid (HB.out.trans (hbl.mono HB.out.size))
  clear hbl
  go_wp2_with (first | (go_at_call 26; refine HC.out.mono ?_; rintro e W10 ⟨rfl, hb⟩; replace Pa := Lib.hid (Pa.out.below hb); replace Pb := Lib.hid (Pb.out.below hb); replace Pc := Lib.hid (Pc.out.below hb); replace Px := Lib.hid (Px.out.below hb); replace Pd := Lib.hid (Pd.out.below hb); replace Py := Lib.hid (Py.out.below hb); replace R9 := Lib.hid ((R9.out.below hb).more hb.size); replace HB := Lib.hid (HB.out.trans (hb.mono HB.out.size)); have z0 : W10.cell? ⟨W5.heap.size, 0, none⟩ = some (.slice (some ⟨g5, 0, none⟩) n5 c5) := Pc.out.blk.cell 0; have z1 : W10.cell? ⟨W5.heap.size, 1, none⟩ = some (.int .i64 0) := Pc.out.blk.cell 1; have z2 : W10.cell? ⟨W5.heap.size, 2, none⟩ = some (.int .i64 0) := Pc.out.blk.cell 2; clear hb))
  clear HC z0 z1 z2
  clear R9 L9
  have HC := Lib.hid (near_e (en := 0) (tp := 0) Pc.out.pge 1 1 qf6.2.1)
  go_wp2_with (first | (go_at_call 31; (with_reducible refine HC.out.mono ?_); rintro e W11 ⟨A11, m11, d11, rfl, ho11, hb⟩; replace Pa := Lib.hid (Pa.out.below hb); replace Pb := Lib.hid (Pb.out.below hb); replace Pc := Lib.hid (Pc.out.below hb); replace Px := Lib.hid (Px.out.below hb); replace Pd := Lib.hid (Pd.out.below hb); replace Py := Lib.hid (Py.out.below hb); replace HB := Lib.hid (HB.out.trans (hb.mono HB.out.size)); have R11 := Lib.hid ho11.rd; have L11 := Lib.hid ho11.len; clear ho11; clear hb))
  clear HC
  have hbl := bel_box W11 (.cells ([2].map (Value.int .i64)).toArray 3)
  have HC := Lib.hid (same_lit (c := d11) R11.out (by have h := L11.out; have h2 : ([2] : List Int).length = m11 := h; have h3 : ([2] : List Int).length = 1 := rfl; omega) [2] 1 rfl (by decide) (same_refl [2]))
  replace Pa := Lib.hid (Pa.out.below hbl)
  replace Pb := Lib.hid (Pb.out.below hbl)
  replace Pc := Lib.hid (Pc.out.below hbl)
  replace Px := Lib.hid (Px.out.below hbl)
  replace Pd := Lib.hid (Pd.out.below hbl)
  replace Py := Lib.hid (Py.out.below hbl)
  replace R11 := Lib.hid ((R11.out.below hbl).more hbl.size)
  replace HB := Lib.hid (HB.out.trans (hbl.mono HB.out.size))
  clear hbl
  go_wp2_with (first | (go_at_call 26; refine HC.out.mono ?_; rintro e W12 ⟨rfl, hb⟩; replace Pa := Lib.hid (Pa.out.below hb); replace Pb := Lib.hid (Pb.out.below hb); replace Pc := Lib.hid (Pc.out.below hb); replace Px := Lib.hid (Px.out.below hb); replace Pd := Lib.hid (Pd.out.below hb); replace Py := Lib.hid (Py.out.below hb); replace R11 := Lib.hid ((R11.out.below hb).more hb.size); replace HB := Lib.hid (HB.out.trans (hb.mono HB.out.size)); have z0 : W12.cell? ⟨W5.heap.size, 0, none⟩ = some (.slice (some ⟨g5, 0, none⟩) n5 c5) := Pc.out.blk.cell 0; have z1 : W12.cell? ⟨W5.heap.size, 1, none⟩ = some (.int .i64 0) := Pc.out.blk.cell 1; have z2 : W12.cell? ⟨W5.heap.size, 2, none⟩ = some (.int .i64 0) := Pc.out.blk.cell 2; clear hb))
  clear HC z0 z1 z2
  clear R11 L11
  have HC := Lib.hid (near_e (en := 0) (tp := 0) Pc.out.pge 0 0 qf6.2.2.1)
  go_wp2_with (first | (go_at_call 31; (with_reducible refine HC.out.mono ?_); rintro e W13 ⟨A13, m13, d13, rfl, ho13, hb⟩; replace Pa := Lib.hid (Pa.out.below hb); replace Pb := Lib.hid (Pb.out.below hb); replace Pc := Lib.hid (Pc.out.below hb); replace Px := Lib.hid (Px.out.below hb); replace Pd := Lib.hid (Pd.out.below hb); replace Py := Lib.hid (Py.out.below hb); replace HB := Lib.hid (HB.out.trans (hb.mono HB.out.size)); have R13 := Lib.hid ho13.rd; have L13 := Lib.hid ho13.len; clear ho13; clear hb))
  clear HC
  have hbl := bel_box W13 (.cells ([2, 1].map (Value.int .i64)).toArray 3)
  have HC := Lib.hid (same_lit (c := d13) R13.out (by have h := L13.out; have h2 : ([2, 1] : List Int).length = m13 := h; have h3 : ([2, 1] : List Int).length = 2 := rfl; omega) [2, 1] 2 rfl (by decide) (same_refl [2, 1]))
  replace Pa := Lib.hid (Pa.out.below hbl)
  replace Pb := Lib.hid (Pb.out.below hbl)
  replace Pc := Lib.hid (Pc.out.below hbl)
  replace Px := Lib.hid (Px.out.below hbl)
  replace Pd := Lib.hid (Pd.out.below hbl)
  replace Py := Lib.hid (Py.out.below hbl)
  replace R13 := Lib.hid ((R13.out.below hbl).more hbl.size)
  replace HB := Lib.hid (HB.out.trans (hbl.mono HB.out.size))
  clear hbl
  go_wp2_with (first | (go_at_call 26; refine HC.out.mono ?_; rintro e W14 ⟨rfl, hb⟩; replace Pa := Lib.hid (Pa.out.below hb); replace Pb := Lib.hid (Pb.out.below hb); replace Pc := Lib.hid (Pc.out.below hb); replace Px := Lib.hid (Px.out.below hb); replace Pd := Lib.hid (Pd.out.below hb); replace Py := Lib.hid (Py.out.below hb); replace R13 := Lib.hid ((R13.out.below hb).more hb.size); replace HB := Lib.hid (HB.out.trans (hb.mono HB.out.size)); have z0 : W14.cell? ⟨W5.heap.size, 0, none⟩ = some (.slice (some ⟨g5, 0, none⟩) n5 c5) := Pc.out.blk.cell 0; have z1 : W14.cell? ⟨W5.heap.size, 1, none⟩ = some (.int .i64 0) := Pc.out.blk.cell 1; have z2 : W14.cell? ⟨W5.heap.size, 2, none⟩ = some (.int .i64 0) := Pc.out.blk.cell 2; clear hb))
  clear HC z0 z1 z2
  clear R13 L13
  have HC := Lib.hid (chk_e Pc.out.pge 1 qf6.2.2.2.1)
  go_wp2_with (first | (go_at_call 22; (with_reducible refine HC.out.mono ?_); rintro e W15 ⟨rfl, hb⟩; replace Pa := Lib.hid (Pa.out.below hb); replace Pb := Lib.hid (Pb.out.below hb); replace Pc := Lib.hid (Pc.out.below hb); replace Px := Lib.hid (Px.out.below hb); replace Pd := Lib.hid (Pd.out.below hb); replace Py := Lib.hid (Py.out.below hb); replace HB := Lib.hid (HB.out.trans (hb.mono HB.out.size)); clear hb))
  clear HC
  have HC := Lib.hid (chk_nil W15)
  go_wp2_with (first | (go_at_call 22; (with_reducible refine HC.out.mono ?_); rintro e W16 ⟨rfl, hb⟩; replace Pa := Lib.hid (Pa.out.below hb); replace Pb := Lib.hid (Pb.out.below hb); replace Pc := Lib.hid (Pc.out.below hb); replace Px := Lib.hid (Px.out.below hb); replace Pd := Lib.hid (Pd.out.below hb); replace Py := Lib.hid (Py.out.below hb); replace HB := Lib.hid (HB.out.trans (hb.mono HB.out.size)); have z0 : W16.cell? ⟨W7.heap.size, 0, none⟩ = some (.slice (some ⟨g7, 0, none⟩) n7 c7) := Pd.out.blk.cell 0; have z1 : W16.cell? ⟨W7.heap.size, 1, none⟩ = some (.int .i64 0) := Pd.out.blk.cell 1; have z2 : W16.cell? ⟨W7.heap.size, 2, none⟩ = some (.int .i64 0) := Pd.out.blk.cell 2; clear hb))
  clear HC z0 z1 z2
  have HC := Lib.hid (live_e (en := 0) (tp := 0) Pd.out.pge qf6.2.2.2.2.1)
  go_wp2_with (first | (go_at_call 27; (with_reducible refine HC.out.mono ?_); rintro e W17 ⟨A17, m17, d17, rfl, ho17, hb⟩; replace Pa := Lib.hid (Pa.out.below hb); replace Pb := Lib.hid (Pb.out.below hb); replace Pc := Lib.hid (Pc.out.below hb); replace Px := Lib.hid (Px.out.below hb); replace Pd := Lib.hid (Pd.out.below hb); replace Py := Lib.hid (Py.out.below hb); replace HB := Lib.hid (HB.out.trans (hb.mono HB.out.size)); have R17 := Lib.hid ho17.rd; have L17 := Lib.hid ho17.len; clear ho17; clear hb))
  clear HC
  have hbl := bel_box W17 (.cells ([2].map (Value.int .i64)).toArray 3)
  have HC := Lib.hid (same_lit (c := d17) R17.out (by have h := L17.out; have h2 : ([2] : List Int).length = m17 := h; have h3 : ([2] : List Int).length = 1 := rfl; omega) [2] 1 rfl (by decide) (same_refl [2]))
  replace Pa := Lib.hid (Pa.out.below hbl)
  replace Pb := Lib.hid (Pb.out.below hbl)
  replace Pc := Lib.hid (Pc.out.below hbl)
  replace Px := Lib.hid (Px.out.below hbl)
  replace Pd := Lib.hid (Pd.out.below hbl)
  replace Py := Lib.hid (Py.out.below hbl)
  replace R17 := Lib.hid ((R17.out.below hbl).more hbl.size)
  replace HB := Lib.hid (HB.out.trans (hbl.mono HB.out.size))
  clear hbl
  go_wp2_with (first | (go_at_call 26; refine HC.out.mono ?_; rintro e W18 ⟨rfl, hb⟩; replace Pa := Lib.hid (Pa.out.below hb); replace Pb := Lib.hid (Pb.out.below hb); replace Pc := Lib.hid (Pc.out.below hb); replace Px := Lib.hid (Px.out.below hb); replace Pd := Lib.hid (Pd.out.below hb); replace Py := Lib.hid (Py.out.below hb); replace R17 := Lib.hid ((R17.out.below hb).more hb.size); replace HB := Lib.hid (HB.out.trans (hb.mono HB.out.size)); have z0 : W18.cell? ⟨W7.heap.size, 0, none⟩ = some (.slice (some ⟨g7, 0, none⟩) n7 c7) := Pd.out.blk.cell 0; have z1 : W18.cell? ⟨W7.heap.size, 1, none⟩ = some (.int .i64 0) := Pd.out.blk.cell 1; have z2 : W18.cell? ⟨W7.heap.size, 2, none⟩ = some (.int .i64 0) := Pd.out.blk.cell 2; clear hb))
  clear HC z0 z1 z2
  clear R17 L17
  have HC := Lib.hid (there_e (en := 0) (tp := 0) Pd.out.pge 1 qf6.2.2.2.2.2.1)
  go_wp2_with (first | (go_at_call 24; (with_reducible refine HC.out.mono ?_); rintro e W19 ⟨rfl, hb⟩; replace Pa := Lib.hid (Pa.out.below hb); replace Pb := Lib.hid (Pb.out.below hb); replace Pc := Lib.hid (Pc.out.below hb); replace Px := Lib.hid (Px.out.below hb); replace Pd := Lib.hid (Pd.out.below hb); replace Py := Lib.hid (Py.out.below hb); replace HB := Lib.hid (HB.out.trans (hb.mono HB.out.size)); have z0 : W19.cell? ⟨W7.heap.size, 0, none⟩ = some (.slice (some ⟨g7, 0, none⟩) n7 c7) := Pd.out.blk.cell 0; have z1 : W19.cell? ⟨W7.heap.size, 1, none⟩ = some (.int .i64 0) := Pd.out.blk.cell 1; have z2 : W19.cell? ⟨W7.heap.size, 2, none⟩ = some (.int .i64 0) := Pd.out.blk.cell 2; clear hb))
  clear HC z0 z1 z2
  have HM := Lib.hid (near_e (en := 0) (tp := 0) Pd.out.pge 2 1 qf6.2.2.2.2.2.2)
  go_wp2_with (go_at_call 31; (with_reducible refine HM.out.mono ?_); rintro e WZ ⟨AZ, mZ, dZ, rfl, hoZ, hb⟩; obtain rfl : mZ = 0 := (by have h := hoZ.len; have h2 : ([] : List Int).length = mZ := h; exact h2.symm); replace HB := Lib.hid (HB.out.trans (hb.mono HB.out.size)); clear hoZ hb)
  go_ret
  exact ⟨rfl, HB.out⟩
end Go.Proofs.Ytkhnnjeinpojkaa
