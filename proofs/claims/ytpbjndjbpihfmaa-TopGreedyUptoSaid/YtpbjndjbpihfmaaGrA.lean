/- The items of a plane: all. -/
import Derived.Test.YtpbjndjbpihfmaaGrW
namespace Go.Proofs.Ytpbjndjbpihfmaa
open Go.RowKit
def flatY (l : List ItX) : List Value := (l.map fun d => d.cells.toList).flatten
theorem flatY_app (a b : List ItX) : flatY (a ++ b) = flatY a ++ flatY b := by unfold flatY; rw [List.map_append, List.flatten_append]
theorem own_itsY {w : World} {base : Nat} {A : Option Addr} {n c : Nat} {l : List ItX} (h : w.ownsRow base 50 3 (.slice A n c) n (flatY l)) (hl : l.length = n) (hv : ∀ d ∈ l, d.vec.Vec w w.heap.size) : Its w w.heap.size A n l := by
  refine ⟨?_, hv⟩
  cases A with
  | none =>
    rcases h.2 with ⟨q, _⟩ | ⟨g, cap, cur, q, _⟩
    · injection q with q1 q2 q3
      subst q2 q3
      have : l = [] := List.eq_nil_of_length_eq_zero hl
      subst this
      exact Rs.nil_
    · cases q
  | some a =>
    rcases h.2 with ⟨q, _⟩ | ⟨g, cap, cur, q, _⟩
    · cases q
    · injection q with q1 q2 q3
      rw [q1] at h ⊢
      exact (Rs.of_own0 (css := l.map fun d => d.cells.toList) h (fun c hc => by obtain ⟨x, _, rfl⟩ := List.mem_map.1 hc; rfl) (by simpa using hl)).1
theorem info_itemY : (Try.prog.info? 50).map (fun i => (i.zero, i.size, i.bytes)) = some (some (.agg itx0), 3, 40) := by kernel_rfl
def allX (ns : List ND) : List ItX := (liveI ns).map fun z => ndI (nAt ns z.toNat)
set_option maxRecDepth 100000 in
set_option maxHeartbeats 8000000 in
theorem top_all (A : Option Addr) (n c : Nat) (ns : List ND) (en tp : Int) (w : World) (hg : PgAt w w.heap.size A n c ns) :
    Calls Try.prog 12 #[.agg (pgL A n c en tp)] w (fun e w' => ∃ A' m c', e = .returned (.slice A' m c') ∧ Its w' w'.heap.size A' m (allX ns) ∧ Below w.heap.size w w') := by
  obtain ⟨w1, hw1⟩ : ∃ x, w.alloc (.cells (pgL A n c en tp) 36) = x := ⟨_, rfl⟩
  obtain ⟨C1, b1⟩ := box_plane hw1
  have HG1 := Lib.hid ((hg.below b1).more b1.size)
  have HC1 := Lib.hid C1
  have HB1 := Lib.hid b1
  have HNL := Lib.hid hg.len
  have HNB := Lib.hid hg.2.1
  have LP := plane_load C1
  have HLV := Lib.hid (pl_live A n c ns en tp w1 HG1.out)
  obtain ⟨live, hlive⟩ : ∃ l, liveI ns = l := ⟨_, rfl⟩
  rw [hlive] at HLV
  have HLE := Lib.hid hlive
  have HALL : Hid (allX ns = live.map fun z => ndI (nAt ns z.toNat)) := by show _ = _; unfold allX; rw [hlive]
  have HTH : Hid (∀ z ∈ live, ∃ i : Nat, z = i ∧ thN ns i = true) := fun z hz => thB_nat_iff.1 (mem_liveIG.1 (by rw [hlive]; exact hz))
  clear hg C1 b1 hlive
  unfold pgL at hw1 LP HLV ⊢
  go_enter Try.func12, Try.ntmps12
  go_upto_region 1 with fail
  (try rw [hw1])
  clear hw1
  go_wp2_with (first
    | refine wpList_loadE LP _ rfl rfl rfl ?_
    | (go_at_call 15; (with_reducible refine HLV.out.mono ?_); rintro e w4 ⟨A5, m, c5, rfl, ho, hb⟩; have HO5 := Lib.hid ho; have HB4 := Lib.hid hb; clear ho hb HLV))
  clear LP
  have HML : Hid (live.length = m) := HO5.out.len
  have hmn : m ≤ n := by
    rw [← HML.out, ← HNL.out, ← HLE.out]
    exact lvI_le ns _
  have hmb : m ≤ 1048576 := Nat.le_trans hmn HNB.out
  go_loopw [9, 3] (fun i v wr => ∃ (t : Nat) (A7 : Option Addr) (c7 : Nat), t ≤ m ∧ i = .int .i64 (t : Nat) ∧ v = .slice A7 t c7 ∧ Hid (wr.ownsRow w1.heap.size 50 3 (.slice A7 t c7) t (flatY ((allX ns).take t))) ∧ Hid (OwnI wr w1.heap.size A5 m c5 live) ∧ Hid (∀ b, A5 = some ⟨b, 0, none⟩ → A7 ≠ some ⟨b, 0, none⟩) ∧ Hid (Below w1.heap.size w1 wr)) (fun i _ _ => m - (intOf i).toNat)
  case atStart => exact ⟨0, none, 0, Nat.zero_le _, rfl, rfl, World.ownsRow_nil _ _ _ _, HO5.out, (show ∀ b, A5 = some ⟨b, 0, none⟩ → (none : Option Addr) ≠ some ⟨b, 0, none⟩ from fun b _ e2 => by cases e2), HB4.out⟩
  case round =>
    clear HO5 HB4
    obtain ⟨t, A7, c7, ht, rfl, rfl, HO7, HO5, HNE7, HB⟩ := hrel
    by_cases hlt : t < m
    · obtain ⟨b2, o2, rfl, hb2, hc2⟩ := HO5.out.rd.atI hlt
      obtain ⟨z, hz⟩ : ∃ z, ig live t = z := ⟨_, rfl⟩
      rw [hz] at hc2
      have hlz : live[t]? = some z := by
        rw [← hz, ig, List.getD_eq_getElem?_getD, List.getElem?_eq_getElem (by rw [HML.out]; exact hlt)]
        rfl
      obtain ⟨i, rfl, hi⟩ := HTH.out z (List.mem_of_getElem? hlz)
      have hin : i < n := by rw [← HNL.out]; exact thN_lt hi
      obtain ⟨b, o, d, rfl, hb, hd, hr, had⟩ := (HG1.out.below HB.out).node hin
      have LI := node_item hr
      obtain ⟨it, hit⟩ : ∃ it, ndI d = it := ⟨_, rfl⟩
      rw [hit] at LI
      have HX : Hid ((allX ns).take (t + 1) = (allX ns).take t ++ [it]) := by
        refine take_stepX ?_
        rw [HALL.out, List.getElem?_map, hlz]
        show some (ndI (nAt ns ((i : Nat) : Int).toNat)) = _
        rw [Int.toNat_natCast, nAt_of hd, hit]
      have z0 : wr.cell? ⟨w.heap.size, 0, none⟩ = some (.slice (some ⟨b, o, none⟩) n c) := (HC1.out.below HB.out HC1.out.lt).cell 0
      have HLT := Lib.hid hlt
      have hi2 : ((i : Nat) : Int) < (n : Int) := by omega
      clear hz hlz hi hit hb hb2 hd hr had
      unfold ItX.cells IS.v at LI
      go_wp2_with (first
        | refine wpList_loadE LI _ rfl rfl rfl ?_
        | (at_builtin; refine wpList_push1 rfl (.tmp 13) (.tmp 20) 22 50 3 40 _ rfl Try.underlying22 info_itemY rfl (by decide) wr w1.heap.size _ t _ it.cells rfl HO7.out rfl rfl (fun u hu => by rcases (by simpa [ItX.cells, IS.v] using hu : u = _ ∨ u = _ ∨ u = _) with rfl | rfl | rfl <;> rfl) (by omega) (by decide) HB.out.size ?_; intro g2 c4 W7 ho hgr hb hat; replace ho := Lib.hid ho; replace hgr := Lib.hid hgr; replace hb := Lib.hid hb; replace hat := Lib.hid hat))
      go_roundw
      case rel =>
        refine ⟨t + 1, some ⟨g2, 0, none⟩, c4, HLT.out, by go_num, rfl, ?_, ownsRow_tch HO5.out (grownBy_tch hgr.out) (apartI HO5.out HO7.out HNE7.out), ?_, HB.out.trans hb.out⟩
        · show World.ownsRow _ _ _ _ _ _ _
          rw [HX.out, flatY_app]
          simpa [flatY] using ho.out
        · show ∀ b, some (⟨b2, o2, none⟩ : Addr) = some ⟨b, 0, none⟩ → some (⟨g2, 0, none⟩ : Addr) ≠ some ⟨b, 0, none⟩
          intro b e e2
          injection e2 with e2; injection e2 with e2 _ _
          subst e2
          rcases hat.out with q1 | q1
          · have h1 := HNE7.out g2 e
            rcases HO7.out.2 with ⟨q2, _⟩ | ⟨g3, cap, cur, q2, _⟩
            · injection q2 with q2; rw [q2] at q1; cases q1
            · injection q2 with q2
              rw [q2] at q1
              injection q1 with q1
              have q3 : g3 = g2 := q1
              exact h1 (by rw [q2, q3])
          · have h2 : ∀ k, (Value.slice (some ⟨b2, o2, none⟩) m c5).ownBlock = some k → k < wr.heap.size := fun k hk => (HO5.out.lt k hk).2
            injection e with e; injection e with e _ _
            have := h2 b2 rfl
            omega
      case measure => have := HLT.out; simp [intOf]; omega
    · obtain rfl : t = m := by omega
      clear hlt ht
      have hal : (allX ns).length = t := by rw [HALL.out, List.length_map, HML.out]
      have ho := HO7.out
      rw [List.take_of_length_le (by rw [hal]; exact Nat.le_refl _)] at ho
      have hg2 := (HG1.out.below HB.out).more HB.out.size
      have HIT := Lib.hid (own_itsY ho hal (fun d hd => by
        rw [HALL.out] at hd
        obtain ⟨z, hz, rfl⟩ := List.mem_map.1 hd
        obtain ⟨i, rfl, hi⟩ := HTH.out z hz
        have hil := thN_lt hi
        rw [Int.toNat_natCast]
        have hm : nAt ns i ∈ ns := by
          obtain ⟨b, o, d, _, _, hd, _⟩ := hg2.node (show i < n by rw [← HNL.out]; exact hil)
          rw [nAt_of hd]
          exact List.mem_of_getElem? hd
        exact (hg2.2.2.2 _ hm).1.vec))
      clear ho hal hg2
      go_wp2_with fail
      go_ret
      exact ⟨A7, t, c7, rfl, HIT.out, HB1.out.trans (HB.out.mono HB1.out.size)⟩
end Go.Proofs.Ytpbjndjbpihfmaa
