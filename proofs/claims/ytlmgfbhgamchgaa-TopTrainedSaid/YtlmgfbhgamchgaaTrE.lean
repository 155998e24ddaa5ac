/- quant.Table, Encode, Decode. -/
import Derived.Test.YtlmgfbhgamchgaaTrD
namespace Go.Proofs.Ytlmgfbhgamchgaa
open Go.RowKit
theorem info_u64sT : (Try.prog.info? 25).map (fun i => (i.zero, i.size, i.bytes)) = some (some (.slice none 0 0), 1, 24) := by kernel_rfl
theorem info_intT : (Try.prog.info? 3).map (fun i => (i.zero, i.size, i.bytes)) = some (some (.int .i64 0), 1, 8) := by kernel_rfl
/-- A table of one row. -/
def RetT (d : Nat → Nat) (n : Nat) (w : World) (e : Ending) (w' : World) : Prop := ∃ T A' c', e = .returned (.tuple #[.slice (some ⟨T, 0, none⟩) 1 1, .int .i64 0]) ∧ T < w'.heap.size ∧ w'.cell? ⟨T, 0, none⟩ = some (.slice A' n c') ∧ Rd w' w'.heap.size A' n ((tabL d n).map (.int .u64)) ∧ Below w.heap.size w w'
theorem TbS.ret {w0 w : World} {O T n c : Nat} {A : Option Addr} {d : Nat → Nat} (h : TbS w w0.heap.size O T A n c ((tabL d n).map (.int .u64))) (hb : Below w0.heap.size w0 w) : RetT d n w0 (.returned (.tuple #[.slice (some ⟨T, 0, none⟩) 1 1, .int .i64 0])) w :=
  ⟨T, A, c, rfl, h.tb.lt, h.tcell, Rd.of_own h.own, hb⟩
set_option maxRecDepth 100000 in
set_option maxHeartbeats 2000000 in
theorem q_table (g : Nat) (A : Option Addr) (n c : Nat) (l : List Vc) (p : Vc) (d : Nat → Nat) (w : World) (hbk : Bk w w.heap.size g A n c l) (h1 : 1 ≤ n) (hn : n ≤ 30) (hp : p.At w w.heap.size)
    (hd : ∀ j, d j = distE p.xs (lg (vxs l) j)) (hd1 : 1 ≤ p.n) (hd2 : p.n ≤ 4096) (hr0 : rightL (vxs l) = true) (hdim : (lg (vxs l) 0).length = p.n) (hpo : OkV p.n p.xs) :
    Calls Try.prog 39 #[.slice (some ⟨g, 0, none⟩) 1 1, p.v] w (RetT d n w) := by
  obtain ⟨w1, hw1⟩ : ∃ x, w.alloc (.cells #[.slice (some ⟨g, 0, none⟩) 1 1] 35) = x := ⟨_, rfl⟩
  have b1 : Below w.heap.size w w1 := by rw [← hw1]; exact bel_boxT _ _
  have k1 : Blk w1 w.heap.size 35 #[.slice (some ⟨g, 0, none⟩) 1 1] := by rw [← hw1]; exact Blk.new _ _ _
  have HFI := Lib.hid (q_fits g A n c p.n l p w1 (hbk.on (Nat.le_refl _) b1) h1 hn hd1 hd2 hr0 hdim (hp.on (Nat.le_refl _) b1) hpo)
  have hmk : ∀ (kl kc : IntKind) (W : World), (Instr.makeSlice 32 (.int kl 1) (.int kc 1)).run Try.prog W = .ok (.slice (some ⟨W.heap.size, 0, none⟩) 1 1) (W.alloc (.cells #[.slice none 0 0] 25)) := fun kl kc W => by
    have h := run_make_row' (P := Try.prog) 32 25 (.slice none 0 0) 24 Try.underlying32 info_u64sT rfl kl kc 1 (by omega) (by omega) W
    rw [show madeCells #[Value.slice none 0 0] 1 = #[.slice none 0 0] from by kernel_rfl] at h
    exact h
  have HEA := Lib.hid (fun bb O T (w4 : World) (hb4 : Below w.heap.size w w4) (hbb : w4.cell? ⟨bb, 0, none⟩ = some (.slice (some ⟨g, 0, none⟩) 1 1)) (hs : TbS w4 w.heap.size O T none 0 0 []) => q_each g A n c l p bb O T w.heap.size d w4 (hbk.below hb4) h1 hn (hp.below hb4) hbb hs hb4.size hd hdim)
  have K1 := Lib.hid k1
  have B1 := Lib.hid b1
  obtain ⟨PA, pn, pc, pxs⟩ := p
  simp only [Vc.v] at HFI HEA ⊢
  have k1c := k1.cell 0
  clear hbk hp hd hr0 hdim hpo k1 b1
  go_enter Try.func39, Try.ntmps39
  go_upto_region 1 with fail
  (try rw [hw1])
  clear hw1
  go_upto_region 4 with (go_at_call 58; (with_reducible refine HFI.out.mono ?_); rintro e w2 ⟨rfl, hb2⟩; have q1 := (hb2.cell (p := ⟨w.heap.size, 0, none⟩) K1.out.lt).trans k1c; have B2 := Lib.hid hb2; clear hb2)
  have hs1 := B1.out.size
  have hs2 := B2.out.size
  have hlt1 := K1.out.lt
  obtain ⟨w3, hw3⟩ : ∃ x, w2.alloc (.cells #[.slice none 0 0] 25) = x := ⟨_, rfl⟩
  have b3 : Below w2.heap.size w2 w3 := by rw [← hw3]; exact bel_boxT _ _
  have k3 : Blk w3 w2.heap.size 25 #[.slice none 0 0] := by rw [← hw3]; exact Blk.new _ _ _
  have s3 : w3.heap.size = w2.heap.size + 1 := by rw [← hw3]; simp only [World.alloc, Array.size_push]
  obtain ⟨w4, hw4⟩ : ∃ x : World, w3.alloc (.cells #[.slice (some ⟨w2.heap.size, 0, none⟩) 1 1] 32) = x := ⟨_, rfl⟩
  have b4 : Below w3.heap.size w3 w4 := by rw [← hw4]; exact bel_boxT _ _
  have k4 : Blk w4 w3.heap.size 32 #[.slice (some ⟨w2.heap.size, 0, none⟩) 1 1] := by rw [← hw4]; exact Blk.new _ _ _
  have B4 : Hid (Below w.heap.size w w4) := (((B1.out.trans (B2.out.mono hs1)).trans (b3.mono (by omega))).trans (b4.mono (by omega)))
  have q4 : w4.cell? ⟨w.heap.size, 0, none⟩ = some (.slice (some ⟨g, 0, none⟩) 1 1) := ((b4.cell (p := ⟨w.heap.size, 0, none⟩) (by show w.heap.size < _; omega)).trans (b3.cell (p := ⟨w.heap.size, 0, none⟩) (by show w.heap.size < _; omega))).trans q1
  have hTS : TbS w4 w.heap.size w3.heap.size w2.heap.size none 0 0 [] := ⟨k4.cell 0, k3.below b4 (by omega), World.ownsRow_nil _ _ _ _, (fun b h => by cases h), by omega, by omega, by omega⟩
  have HE := Lib.hid (HEA.out w.heap.size w3.heap.size w2.heap.size w4 B4.out q4 hTS)
  clear HEA HFI hTS b3 k3 b4 k4 K1
  go_upto_region 5 with fail
  (try rw [hw3])
  (try rw [hw4])
  rw [s3] at HE
  clear hmk hw3 hw4
  go_wp2_with (go_at_call 59; (with_reducible refine HE.out.mono ?_); rintro e w5 ⟨rfl, ⟨A', c', hts⟩, hb5⟩; have q5 := hts.oc; have H5 := Lib.hid hts; have B5 := Lib.hid hb5; clear hts hb5)
  refine bodyPost_ret (v := .tuple #[.slice (some ⟨w2.heap.size, 0, none⟩) 1 1, .int .i64 0]) (by simp [results, Try.results39, go_sem]) rfl ?_
  exact H5.out.ret (B4.out.trans B5.out)
end Go.Proofs.Ytlmgfbhgamchgaa
