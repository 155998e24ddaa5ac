/- The document's Read. Printed by genImT.py out of ImT.frame. -/
import Derived.Test.YtbpcddimnbjoeaaImS
namespace Go.Proofs.Ytbpcddimnbjoeaa
open Go.RowKit
/-- Ahead of the plane. -/
structure NrS (w : World) (X : Nat) (s : RS) (wr : World) (l : List Int) (wy : Int) : Prop where
  iv : IvT s l wy
  ig : Blk wr X 73 #[.string (strOfNums l), .int .i64 wy, .int .i64 s.e]
  res : Blk wr w.heap.size 24 (pgL none 0 0 0 0)
  bel : Below w.heap.size w wr
  lx : w.heap.size < X
theorem NrS.put {w wr w' : World} {X : Nat} {s s' : RS} {l l' : List Int} {wy wy' : Int} (H : NrS w X s wr l wy) (ht : Tch (fun k => k = X) wr w') (hb : Blk w' X 73 #[.string (strOfNums l'), .int .i64 wy', .int .i64 s'.e]) (hi : IvT s' l' wy') : NrS w X s' w' l' wy' :=
  ⟨hi, hb, H.res.tch ht (by have := H.lx; omega), H.bel.trans (ht.below H.bel.size fun k hk => by have := H.lx; omega), H.lx⟩
theorem NrS.below {w wr w' : World} {X : Nat} {s : RS} {l : List Int} {wy : Int} (H : NrS w X s wr l wy) (hb : Below wr.heap.size wr w') : NrS w X s w' l wy := H.put (Tch.of_below hb) (H.ig.below hb H.ig.lt) H.iv
/-- The plane while it is read. -/
structure PvS (w : World) (X P : Nat) (en tp : Int) (s : RS) (ds : List ND) (wr : World) (l : List Int) (wy : Int) (A : Option Addr) (n c : Nat) : Prop where
  iv : IvT s l wy
  ig : Blk wr X 73 #[.string (strOfNums l), .int .i64 wy, .int .i64 s.e]
  res : Blk wr w.heap.size 24 (pgL none 0 0 0 0)
  pl : Blk wr P 24 #[.slice A n c, .int .i64 en, .int .i64 tp]
  own : wr.ownsRow (X + 1) 42 7 (.slice A n c) n (flat ds)
  ne : (Value.slice A n c).ownBlock ≠ some P
  len : ds.length = n
  nds : ∀ d ∈ ds, AtN wr (fun k => X + 1 ≤ k ∧ k < wr.heap.size ∧ k ≠ P ∧ (Value.slice A n c).ownBlock ≠ some k) d
  bel : Below w.heap.size w wr
  lx : w.heap.size < X ∧ X < P
section
variable {w wr w' W5 : World} {X P : Nat} {en tp : Int} {s s' : RS} {ds : List ND} {d : ND} {l l' : List Int} {wy wy' : Int} {A : Option Addr} {n c b c' : Nat}
theorem PvS.sz (H : PvS w X P en tp s ds wr l wy A n c) : P + 1 ≤ wr.heap.size := H.pl.lt
theorem PvS.put (H : PvS w X P en tp s ds wr l wy A n c) (ht : Tch (fun k => k = X) wr w') (hb : Blk w' X 73 #[.string (strOfNums l'), .int .i64 wy', .int .i64 s'.e]) (hi : IvT s' l' wy') : PvS w X P en tp s' ds w' l' wy' A n c :=
  ⟨hi, hb, H.res.tch ht (by have := H.lx; omega), H.pl.tch ht (by have := H.lx; omega), ownsRow_tchJ H.own ht fun k hk => by have := (H.own.lt k hk).1; omega, H.ne, H.len,
    fun d hd => ((H.nds d hd).tch ht fun k hk => ⟨hk.2.1, by omega⟩).mono fun k hk => ⟨hk.1, by have := ht.size; omega, hk.2.2⟩, H.bel.trans (ht.below H.bel.size fun k hk => by have := H.lx; omega), H.lx⟩
theorem PvS.below (H : PvS w X P en tp s ds wr l wy A n c) (hb : Below wr.heap.size wr w') : PvS w X P en tp s ds w' l wy A n c := H.put (Tch.of_below hb) (H.ig.below hb H.ig.lt) H.iv
theorem PvS.push (H : PvS w X P en tp s ds wr l wy A n c) {B4 : Nat} (hB4 : ∀ k, (Value.slice A n c).ownBlock = some k → k < B4) (hP : P + 1 ≤ B4) (hd : AtN wr (fun k => B4 ≤ k ∧ k < wr.heap.size) d)
    (hgr : wr.grownBy W5 (Value.slice A n c).ownBlock) (hat : (Value.slice A n c).ownBlock = some b ∨ wr.heap.size ≤ b)
    (ho : W5.ownsRow (X + 1) 42 7 (.slice (some ⟨b, 0, none⟩) (n + 1) c') (n + 1) (flat ds ++ d.cells.toList)) :
    PvS w X P en tp s (ds ++ [d]) (W5.setCell ⟨P, 0, none⟩ (.slice (some ⟨b, 0, none⟩) (n + 1) c')) l wy (some ⟨b, 0, none⟩) (n + 1) c' := by
  have hlx := H.lx
  have hs := H.sz
  have hb : X + 1 ≤ b := by
    rcases hat with h | h
    · exact (H.own.lt b h).1
    · omega
  have hbP : b ≠ P := by
    rcases hat with h | h
    · intro e; subst e; exact H.ne h
    · omega
  have ht := grownBy_tchJ hgr
  have hk : ∀ k, some k = (Value.slice A n c).ownBlock → X + 1 ≤ k := fun k h => (H.own.lt k h.symm).1
  obtain ⟨V, hV⟩ : ∃ V, W5.setCell ⟨P, 0, none⟩ (.slice (some ⟨b, 0, none⟩) (n + 1) c') = V := ⟨_, rfl⟩
  have t2 : Tch (fun k => k = P ∨ some k = (Value.slice A n c).ownBlock) wr V := by rw [← hV]; exact (ht.mono fun k _ h => .inr h).setCell (.inl rfl) _ _
  have t3 : Tch (fun k => k = P) W5 V := by rw [← hV]; exact Tch.setCell (S := fun k => k = P) (Tch.refl _ _) rfl _ _
  have hn5 := H.pl.tch ht fun h => H.ne h.symm
  have e := hn5.set_ 0 (.slice (some ⟨b, 0, none⟩) (n + 1) c')
  have hno : ∀ k, k ≤ X → ¬ (k = P ∨ some k = (Value.slice A n c).ownBlock) := fun k h1 h => by
    rcases h with h | h
    · omega
    · have := hk k h; omega
  have hbk : ∀ k, k < wr.heap.size → (Value.slice A n c).ownBlock ≠ some k → b ≠ k := fun k h1 h2 h => by
    subst h
    rcases hat with h | h
    · exact h2 h
    · omega
  rw [hV] at e ⊢
  refine ⟨H.iv, H.ig.tch t2 (hno _ (Nat.le_refl _)), H.res.tch t2 (hno _ (by omega)), by simpa using e, ?_, fun h => hbP (by injection h), by rw [List.length_append, H.len]; rfl, ?_, H.bel.trans (t2.below H.bel.size fun k h => ?_), hlx⟩
  · rw [flat_append]
    exact ownsRow_tchJ ho t3 fun k h => by
      have : b = k := by injection h
      omega
  · intro l hml
    rcases List.mem_append.1 hml with h | h
    · refine ((H.nds l h).tch t2 fun k hk => ⟨hk.2.1, ?_⟩).mono fun k hk => ⟨hk.1, by have := t2.size; omega, hk.2.2.1, fun e => hbk k hk.2.1 hk.2.2.2 (by injection e)⟩
      rintro (h1 | h1)
      · exact hk.2.2.1 h1
      · exact hk.2.2.2 h1.symm
    · obtain rfl := List.mem_singleton.1 h
      have hq : ∀ k, B4 ≤ k → (Value.slice A n c).ownBlock ≠ some k := fun k hk e => by have := hB4 k e; omega
      refine (hd.tch t2 fun k hk => ⟨hk.2, ?_⟩).mono fun k hk => ⟨by omega, by have := t2.size; omega, by omega, fun e => hbk k hk.2 (hq k hk.1) (by injection e)⟩
      rintro (h1 | h1)
      · omega
      · exact hq k hk.1 h1.symm
  · rcases h with h | h
    · omega
    · have := hk k h; omega
theorem PvS.begin {w9 w10 w11 : World} {nx pv : Nat} (H : NrS w X s w9 l wy) (hx : nx ≤ 4096 ∧ pv ≤ 4096) (h10 : w9.alloc (.cells (ndH nx pv).cells 42) = w10) (h11 : w10.alloc (.cells #[.slice (some ⟨w9.heap.size, 0, none⟩) 1 1, .int .i64 en, .int .i64 tp] 24) = w11) :
    w10.heap.size = w9.heap.size + 1 ∧ PvS w X w10.heap.size en tp s [ndH nx pv] w11 l wy (some ⟨w9.heap.size, 0, none⟩) 1 1 := by
  have b1 : Below w9.heap.size w9 w10 := by rw [← h10]; exact (Below.refl _ _).alloc (Nat.le_refl _) _
  have b2 : Below w10.heap.size w10 w11 := by rw [← h11]; exact (Below.refl _ _).alloc (Nat.le_refl _) _
  have sz : w10.heap.size = w9.heap.size + 1 := by rw [← h10]; simp only [World.alloc, Array.size_push]
  have H2 := (H.below b1).below b2
  have hl := H.ig.lt
  have ho : w10.ownsRow (X + 1) 42 7 (.slice (some ⟨w9.heap.size, 0, none⟩) 1 1) 1 (ndH nx pv).cells.toList := by rw [← h10]; exact World.ownsRow_lit w9 _ 1 hl (by decide) rfl
  have e2 : flat [ndH nx pv] = (ndH nx pv).cells.toList := by simp [flat]
  refine ⟨sz, H2.iv, H2.ig, H2.res, by rw [← h11]; exact Blk.new _ _ _, ?_, ?_, rfl, ?_, H2.bel, H.lx, by omega⟩
  · rw [e2]
    exact ownsRow_tchJ ho (Tch.of_below (S := fun _ => False) b2) fun _ _ h => h
  · intro h
    have : w9.heap.size = w10.heap.size := by injection h
    omega
  · intro d hd
    rw [List.mem_singleton.1 hd]
    exact ndH_at _ _ hx
end
theorem load_errno {w : World} {b o : Nat} {v : Int} (h : w.cell? ⟨b, o, none⟩ = some (.int .i64 v)) : (Instr.loadAt 27 (.pointer (some ⟨b, o, none⟩))).run Try.prog w = .ok (.int .i64 v) w := by
  simp [go_sem, h]
set_option maxRecDepth 100000 in
set_option maxHeartbeats 16000000 in
theorem rf_read (l : List Int) (hb : Bytes l) (hl : l.length ≤ 1000000) (w : World) : Calls Try.prog 10 #[.string (strOfNums l)] w (RetR (readR l) w) := by
  obtain ⟨w1, hw1⟩ : ∃ x, w.alloc (.cells #[.slice none 0 0, .int .i64 0, .int .i64 0] 24) = x := ⟨_, rfl⟩
  obtain ⟨k1, b1⟩ := box_planeM hw1
  have HK := Lib.hid k1
  have HB := Lib.hid b1
  have hss := strOfNums_size l
  have HBY := Lib.hid hb
  obtain ⟨k, hk⟩ : ∃ k, l.length - 4 = k := ⟨_, rfl⟩
  have hkl : k ≤ l.length := by omega
  have HR : Hid (readR l = if l.length < 8 then irE 8 else if l.take 4 ≠ mkL then irE 7 else if sumB (l.take k) ≠ l.drop k then irE 14 else irP (plnR ⟨(l.take k).drop 4, 0⟩)) := by show _ = _; unfold readR bodyL sealL; rw [hk]
  have SR0 := row_store HK.out (pgL none 0 0 0 0) rfl planeT (by simp [pgL, Value.oneCell'])
  obtain ⟨W0, hW0⟩ : ∃ x, w1.setCells w.heap.size 0 (pgL none 0 0 0 0).toList = x := ⟨_, rfl⟩
  have HK0 : Hid (Blk W0 w.heap.size 24 (pgL none 0 0 0 0)) := by show Blk _ _ _ _; rw [← hW0]; exact HK.out.put _ rfl
  have HB0 : Hid (Below w.heap.size w W0) := by show Below _ _ _; rw [← hW0]; exact below_setCells HB.out (Nat.le_refl _) (Nat.le_refl _) _ _
  rw [hW0] at SR0
  clear hW0 k1 b1 hb
  unfold pgL at SR0
  by_cases h8 : l.length < 8
  · have h8i : (l.length : Int) < 8 := by omega
    have HE : Hid (readR l = irE 8) := by show _ = _; rw [HR.out, if_pos h8]
    clear HR h8
    go_enter Try.func10, Try.ntmps10
    go_upto_region 1 with fail
    (try rw [hw1])
    clear hw1
    go_wp2_with (refine wpList_storeE SR0 _ _ rfl rfl rfl rfl ?_)
    refine bodyPost_ret (v := .tuple #[.agg (pgL none 0 0 0 0), .int .i64 0, .int .i64 8]) ?_ rfl (by rw [HE.out]; exact .no 8 HB0.out)
    exact results_row12 Try.results10 _ rfl HK0.out Try.underlying24 rfl planeT
  rw [if_neg h8] at HR
  have h8i : ¬ (l.length : Int) < 8 := by omega
  have hk4 : 4 ≤ k := by omega
  have h4l : (4 : Int) ≤ (l.length : Int) := by omega
  have hex4 : (strOfNums l).extract 0 4 = strOfNums (l.take 4) := by rw [str_extract]; rfl
  by_cases hp : l.take 4 = mkL
  · rw [if_neg (fun h => h hp)] at HR
    have hpb : ((strOfNums (l.take 4)).toList == [71, 78, 71, 49]) = true := by rw [hp, mk_list]; rfl
    have hwr : IntKind.i64.wrap (((strOfNums l).size : Int) - 4) = ((k : Nat) : Int) := by rw [IntKind.wrap_i64, hss]; omega
    have hex5 : (strOfNums l).extract 4 k = strOfNums ((l.take k).drop 4) := by rw [str_extract, List.drop_take]
    clear hp SR0 HK0 HB0 h8
    go_enter Try.func10, Try.ntmps10
    go_upto_region 1 with fail
    (try rw [hw1])
    clear hw1
    go_upto_region 5 with fail
    refine wp_region_held_drew (S := fun W => Below w1.heap.size w1 W) (by kernel_rfl) (below_drewN (Below.refl _ w1) 1) (fun hH => ?_)
    obtain ⟨W, hW⟩ : ∃ x, w1.drew = x := ⟨_, rfl⟩
    rw [hW] at hH ⊢
    clear hW
    refine wpAnyH_take (i := 0) (v := .string (strOfNums l)) rfl (by kernel_rfl) (by kernel_rfl) (by kernel_rfl) (fun _ _ _ h => h) (.inl ⟨by rfl, fun _ _ => by kernel_rfl⟩) hH ?_
    (try simp only [List.getElem_toArray, List.getElem_cons_zero, Act.put, List.setIfInBounds_toArray, List.set_cons_zero, List.set_cons_succ])
    refine wpAnyH_take (i := 1) (v := .string (strOfNums l)) rfl (by kernel_rfl) (by kernel_rfl) (by kernel_rfl) (fun _ _ _ h => h) (.inl ⟨by rfl, fun _ _ => by kernel_rfl⟩) hH ?_
    (try simp only [List.getElem_toArray, List.getElem_cons_zero, List.getElem_cons_succ, Act.put, List.setIfInBounds_toArray, List.set_cons_zero, List.set_cons_succ])
    refine wpAnyH_take (i := 2) (v := .int .i64 ((strOfNums l).size : Nat)) rfl (by kernel_rfl) (by kernel_rfl) (by kernel_rfl) (fun _ _ _ h => h) (.inl ⟨by rfl, fun _ _ => by kernel_rfl⟩) hH ?_
    (try simp only [List.getElem_toArray, List.getElem_cons_zero, List.getElem_cons_succ, Act.put, List.setIfInBounds_toArray, List.set_cons_zero, List.set_cons_succ])
    refine wpAnyH_take (i := 3) (v := .int .i64 ((k : Nat) : Int)) rfl (by kernel_rfl) (by kernel_rfl) (by kernel_rfl) (fun _ _ _ h => h) (yieldsIf_subM (by rfl) _ _ rfl rfl rfl hwr) hH ?_
    (try simp only [List.getElem_toArray, List.getElem_cons_zero, List.getElem_cons_succ, Act.put, List.setIfInBounds_toArray, List.set_cons_zero, List.set_cons_succ])
    refine wpAnyH_take (i := 4) (v := .string (strOfNums (l.take k))) rfl (by kernel_rfl) (by kernel_rfl) (by kernel_rfl) (fun _ _ _ h => h) (yieldsIf_frontM (by rfl) _ _ rfl rfl rfl hkl) hH ?_
    (try simp only [List.getElem_toArray, List.getElem_cons_zero, List.getElem_cons_succ, Act.put, List.setIfInBounds_toArray, List.set_cons_zero, List.set_cons_succ])
    refine wpAnyH_take (i := 6) (v := .string (strOfNums l)) rfl (by kernel_rfl) (by kernel_rfl) (by kernel_rfl) (fun _ _ _ h => h) (.inl ⟨by rfl, fun _ _ => by kernel_rfl⟩) hH ?_
    (try simp only [List.getElem_toArray, List.getElem_cons_zero, List.getElem_cons_succ, Act.put, List.setIfInBounds_toArray, List.set_cons_zero, List.set_cons_succ])
    refine wpAnyH_take (i := 7) (v := .string (strOfNums l)) rfl (by kernel_rfl) (by kernel_rfl) (by kernel_rfl) (fun _ _ _ h => h) (.inl ⟨by rfl, fun _ _ => by kernel_rfl⟩) hH ?_
    (try simp only [List.getElem_toArray, List.getElem_cons_zero, List.getElem_cons_succ, Act.put, List.setIfInBounds_toArray, List.set_cons_zero, List.set_cons_succ])
    refine wpAnyH_take (i := 8) (v := .int .i64 ((strOfNums l).size : Nat)) rfl (by kernel_rfl) (by kernel_rfl) (by kernel_rfl) (fun _ _ _ h => h) (.inl ⟨by rfl, fun _ _ => by kernel_rfl⟩) hH ?_
    (try simp only [List.getElem_toArray, List.getElem_cons_zero, List.getElem_cons_succ, Act.put, List.setIfInBounds_toArray, List.set_cons_zero, List.set_cons_succ])
    refine wpAnyH_take (i := 9) (v := .int .i64 ((k : Nat) : Int)) rfl (by kernel_rfl) (by kernel_rfl) (by kernel_rfl) (fun _ _ _ h => h) (yieldsIf_subM (by rfl) _ _ rfl rfl rfl hwr) hH ?_
    (try simp only [List.getElem_toArray, List.getElem_cons_zero, List.getElem_cons_succ, Act.put, List.setIfInBounds_toArray, List.set_cons_zero, List.set_cons_succ])
    refine wpAnyH_take (i := 10) (v := .string (strOfNums (l.drop k))) rfl (by kernel_rfl) (by kernel_rfl) (by kernel_rfl) (fun _ _ _ h => h) (yieldsIf_backM (by rfl) _ _ rfl rfl rfl hkl) hH ?_
    (try simp only [List.getElem_toArray, List.getElem_cons_zero, List.getElem_cons_succ, Act.put, List.setIfInBounds_toArray, List.set_cons_zero, List.set_cons_succ])
    refine wpAnyH_call 5 25 #[.string (strOfNums (l.take k))] _ (by kernel_rfl) (by rfl) (by kernel_rfl) (by kernel_rfl) (rf_sum (l.take k) (HBY.out.take k) (by rw [List.length_take]; omega) W) ?_
    rintro e W5 ⟨rfl, hb5⟩
    have hH5 : Below w1.heap.size w1 W5 := hH.trans (hb5.mono hH.size)
    refine ⟨_, rfl, hH5, ?_⟩
    (try simp only [List.getElem_toArray, List.getElem_cons_zero, List.getElem_cons_succ, Act.put, List.setIfInBounds_toArray, List.set_cons_zero, List.set_cons_succ])
    refine wpAnyH_take (i := 11) (v := .bool (!((strOfNums (sumB (l.take k))).toList == (strOfNums (l.drop k)).toList))) rfl (by kernel_rfl) (by kernel_rfl) (by kernel_rfl) (fun _ _ _ h => h) (.inl ⟨by rfl, fun _ _ => by kernel_rfl⟩) hH5 ?_
    (try simp only [List.getElem_toArray, List.getElem_cons_zero, List.getElem_cons_succ, Act.put, List.setIfInBounds_toArray, List.set_cons_zero, List.set_cons_succ])
    refine wpAnyH_done (by kernel_rfl) ?_ _
    have HBW := Lib.hid (HB.out.trans (hH5.mono HB.out.size))
    have HKW : Hid (Blk W5 w.heap.size 24 (pgL none 0 0 0 0)) := HK.out.below hH5 HK.out.lt
    clear hH hH5 HB HK hwr hex4
    obtain ⟨fr, hfr⟩ : ∃ x, l.take k = x := ⟨_, rfl⟩
    obtain ⟨sl, hsl⟩ : ∃ x, l.drop k = x := ⟨_, rfl⟩
    rw [hfr, hsl] at HR
    rw [hfr] at hex5
    rw [hfr, hsl]
    have HBF : Hid (Bytes fr) := by show Bytes _; rw [← hfr]; exact HBY.out.take k
    have HBS : Hid (Bytes sl) := by show Bytes _; rw [← hsl]; exact HBY.out.drop k
    have hfl : fr.length = k := by rw [← hfr, List.length_take]; omega
    clear hfr hsl
    obtain ⟨qb, hqb⟩ : ∃ q : Bool, (!((strOfNums (sumB fr)).toList == (strOfNums sl).toList)) = q := ⟨_, rfl⟩
    rw [hqb]
    rw [str_toList _ _ (sum_bytes fr) HBS.out] at hqb
    by_cases hs : sumB fr = sl
    · rw [if_neg (fun h => h hs)] at HR
      obtain rfl : qb = false := by rw [← hqb, decide_eq_true hs]; rfl
      clear hs hqb
      have HI0 : Hid (IvT ⟨fr.drop 4, 0⟩ (fr.drop 4) 0) := ⟨fun _ => ⟨rfl, rfl⟩, HBF.out.drop 4, by rw [List.length_drop]; omega⟩
      have hex6 : (strOfNums l).extract 4 k = strOfNums (fr.drop 4) := hex5
      have hk4i : (4 : Int) ≤ (k : Int) := by omega
      have hkli : (k : Int) ≤ (l.length : Int) := by omega
      go_upto_region 8 with fail
      obtain ⟨w7, hw7⟩ : ∃ x, W5.alloc (.cells #[.string (strOfNums (fr.drop 4)), .int .i64 0, .int .i64 0] 73) = x := ⟨_, rfl⟩
      have b7 : Below W5.heap.size W5 w7 := by rw [← hw7]; exact (Below.refl _ W5).alloc (Nat.le_refl _) _
      have k7 : Blk w7 W5.heap.size 73 #[.string (strOfNums (fr.drop 4)), .int .i64 0, .int .i64 0] := by rw [← hw7]; exact Blk.new _ _ _
      obtain ⟨s0, hs0⟩ : ∃ s : RS, ⟨fr.drop 4, 0⟩ = s := ⟨_, rfl⟩
      have he0 : s0.e = 0 := by rw [← hs0]
      rw [hs0] at HI0 HR
      have hn0 : NrS w W5.heap.size s0 w7 (fr.drop 4) 0 := ⟨HI0.out, by rw [he0]; exact k7, HKW.out.below b7 HKW.out.lt, HBW.out.trans (b7.mono HBW.out.size), HKW.out.lt⟩
      obtain ⟨X, hX⟩ : ∃ x, W5.heap.size = x := ⟨_, rfl⟩
      rw [hX] at hn0
      have HN0 := Lib.hid hn0
      (try rw [hw7])
      (try rw [hX])
      clear hw7 b7 k7 hX hn0 hs0 he0 HI0 HBW HKW HBF HBS HBY hex5 hex6 hss h4l h8i hpb hkl hk4 hk hfl hk4i hkli hl
      obtain ⟨s1, lk, e1⟩ : ∃ a b, takeR s0 1 32 = (a, b) := ⟨_, _, rfl⟩
      obtain ⟨s2, nn, e2⟩ : ∃ a b, takeR s1 1 4097 = (a, b) := ⟨_, _, rfl⟩
      have E1 := Lib.hid e1
      have E2 := Lib.hid e2
      have hlk : lk ≤ 32 := take_le e1
      have hnn : nn ≤ 4097 := take_le e2
      have HPN : Hid (plnR s0 = if s2.e = 0 then pl1R lk nn s2 else ⟨s2, [], 0, 0, lk⟩) := by show _ = _; unfold plnR; simp only [e1, e2]
      clear e1 e2
      have LP8 := load_I HN0.out.ig
      go_upto_region 9 with (first
        | refine wpList_loadT LP8 (by rfl) ?_
        | (go_at_call 30; (with_reducible refine (rf_takeE HN0.out.iv 1 32 E1.out (lo' := 1) rfl (hi' := 32) rfl _).mono ?_); rintro e Wa8 ⟨la8, wa8, rfl, hti8, htb8⟩; have HA8 := Lib.hid (HN0.out.below htb8); obtain ⟨Wb8, SR8, kb8, tb8⟩ := store_I (l := la8) (wy := wa8) (e := s1.e) HA8.out.ig rfl; have HN1 := Lib.hid (HA8.out.put tb8 kb8 hti8); clear hti8 htb8 tb8 kb8 HA8)
        | refine wpList_storeE SR8 _ _ rfl rfl rfl rfl ?_)
      clear LP8 SR8 HN0
      have LP9 := load_I HN1.out.ig
      go_upto_region 10 with (first
        | refine wpList_loadT LP9 (by rfl) ?_
        | (go_at_call 30; (with_reducible refine (rf_takeE HN1.out.iv 1 4097 E2.out (lo' := 1) rfl (hi' := 4097) rfl _).mono ?_); rintro e Wa9 ⟨la9, wa9, rfl, hti9, htb9⟩; have HA9 := Lib.hid (HN1.out.below htb9); obtain ⟨Wb9, SR9, kb9, tb9⟩ := store_I (l := la9) (wy := wa9) (e := s2.e) HA9.out.ig rfl; have HN2 := Lib.hid (HA9.out.put tb9 kb9 hti9); clear hti9 htb9 tb9 kb9 HA9)
        | refine wpList_storeE SR9 _ _ rfl rfl rfl rfl ?_)
      clear LP9 SR9 HN1
      have c2 : Wb9.cell? ⟨X, 2, none⟩ = some (.int .i64 s2.e) := HN2.out.ig.cell 2
      by_cases he : s2.e = 0
      · have hg2 := takeR_good (s := s1) (lo := 1) (hi := 4097) (by rw [E2.out]; exact he)
        rw [E2.out] at hg2
        have hnn1 : 1 ≤ nn := hg2.2
        have hvb : (s2.e != 0) = false := by simpa using he
        obtain ⟨nm, hnm⟩ : ∃ k, nn - 1 = k := ⟨_, rfl⟩
        obtain ⟨s3, en, e3⟩ : ∃ a b, takeR s2 0 nm = (a, b) := ⟨_, _, rfl⟩
        obtain ⟨s4, tp, e4⟩ : ∃ a b, takeR s3 0 7 = (a, b) := ⟨_, _, rfl⟩
        obtain ⟨s5, nx, e5⟩ : ∃ a b, takeR s4 0 nm = (a, b) := ⟨_, _, rfl⟩
        obtain ⟨s6, pv, e6⟩ : ∃ a b, takeR s5 0 nm = (a, b) := ⟨_, _, rfl⟩
        obtain ⟨s7, nsx, e7⟩ : ∃ a b, ndsR lk nn nm s6 [ndH nx pv] = (a, b) := ⟨_, _, rfl⟩
        have HP : Hid (readR l = irP ⟨s7, nsx, en, tp, lk⟩) := by show _ = _; rw [HR.out, HPN.out, if_pos he]; unfold pl1R; simp only [hnm, e3, e4, e5, e6, e7]
        have E3 := Lib.hid e3
        have E4 := Lib.hid e4
        have E5 := Lib.hid e5
        have E6 := Lib.hid e6
        have E7 := Lib.hid e7
        have htp : tp ≤ 7 := take_le e4
        have hen : en ≤ nm := take_le e3
        have hnx : nx ≤ nm := take_le e5
        have hpv : pv ≤ nm := take_le e6
        have hnmb : nm ≤ 4096 := by omega
        have hnni : (nn : Int) - 1 = (nm : Int) := by omega
        clear hg2 e3 e4 e5 e6 e7 he HPN HR E1 E2
        have LP12 := load_I HN2.out.ig
        go_upto_region 13 with (first
          | refine wpList_loadT LP12 (by rfl) ?_
          | (go_at_call 30; (with_reducible refine (rf_takeE HN2.out.iv 0 nm E3.out (lo' := 0) rfl (hi' := (nm : Nat)) rfl _).mono ?_); rintro e Wa12 ⟨la12, wa12, rfl, hti12, htb12⟩; have HA12 := Lib.hid (HN2.out.below htb12); obtain ⟨Wb12, SR12, kb12, tb12⟩ := store_I (l := la12) (wy := wa12) (e := s3.e) HA12.out.ig rfl; have HN3 := Lib.hid (HA12.out.put tb12 kb12 hti12); clear hti12 htb12 tb12 kb12 HA12)
          | refine wpList_storeE SR12 _ _ rfl rfl rfl rfl ?_)
        clear LP12 SR12 HN2
        clear c2
        have LP13 := load_I HN3.out.ig
        go_upto_region 14 with (first
          | refine wpList_loadT LP13 (by rfl) ?_
          | (go_at_call 30; (with_reducible refine (rf_takeE HN3.out.iv 0 7 E4.out (lo' := 0) rfl (hi' := 7) rfl _).mono ?_); rintro e Wa13 ⟨la13, wa13, rfl, hti13, htb13⟩; have HA13 := Lib.hid (HN3.out.below htb13); obtain ⟨Wb13, SR13, kb13, tb13⟩ := store_I (l := la13) (wy := wa13) (e := s4.e) HA13.out.ig rfl; have HN4 := Lib.hid (HA13.out.put tb13 kb13 hti13); clear hti13 htb13 tb13 kb13 HA13)
          | refine wpList_storeE SR13 _ _ rfl rfl rfl rfl ?_)
        clear LP13 SR13 HN3
        have LP14 := load_I HN4.out.ig
        go_upto_region 15 with (first
          | refine wpList_loadT LP14 (by rfl) ?_
          | (go_at_call 30; (with_reducible refine (rf_takeE HN4.out.iv 0 nm E5.out (lo' := 0) rfl (hi' := (nm : Nat)) rfl _).mono ?_); rintro e Wa14 ⟨la14, wa14, rfl, hti14, htb14⟩; have HA14 := Lib.hid (HN4.out.below htb14); obtain ⟨Wb14, SR14, kb14, tb14⟩ := store_I (l := la14) (wy := wa14) (e := s5.e) HA14.out.ig rfl; have HN5 := Lib.hid (HA14.out.put tb14 kb14 hti14); clear hti14 htb14 tb14 kb14 HA14)
          | refine wpList_storeE SR14 _ _ rfl rfl rfl rfl ?_)
        clear LP14 SR14 HN4
        have LP15 := load_I HN5.out.ig
        go_upto_region 16 with (first
          | refine wpList_loadT LP15 (by rfl) ?_
          | (go_at_call 30; (with_reducible refine (rf_takeE HN5.out.iv 0 nm E6.out (lo' := 0) rfl (hi' := (nm : Nat)) rfl _).mono ?_); rintro e Wa15 ⟨la15, wa15, rfl, hti15, htb15⟩; have HA15 := Lib.hid (HN5.out.below htb15); obtain ⟨Wb15, SR15, kb15, tb15⟩ := store_I (l := la15) (wy := wa15) (e := s6.e) HA15.out.ig rfl; have HN6 := Lib.hid (HA15.out.put tb15 kb15 hti15); clear hti15 htb15 tb15 kb15 HA15)
          | refine wpList_storeE SR15 _ _ rfl rfl rfl rfl ?_)
        clear LP15 SR15 HN5
        go_upto_region 17 with fail
        obtain ⟨w10, hw10⟩ : ∃ x, Wb15.alloc (.cells #[.int .u64 0, .slice none 0 0, .int .u64 0, .int .i64 0, .slice none 0 0, .int .i64 (nx : Nat), .int .i64 (pv : Nat)] 42) = x := ⟨_, rfl⟩
        obtain ⟨w11, hw11⟩ : ∃ x, w10.alloc (.cells #[.slice (some ⟨Wb15.heap.size, 0, none⟩) 1 1, .int .i64 (en : Nat), .int .i64 (tp : Nat)] 24) = x := ⟨_, rfl⟩
        obtain ⟨hz10, hpv0⟩ := PvS.begin (en := en) (tp := tp) HN6.out (nx := nx) (pv := pv) (by omega) hw10 hw11
        rw [hz10] at hpv0
        obtain ⟨P, hP⟩ : ∃ x, Wb15.heap.size + 1 = x := ⟨_, rfl⟩
        rw [hP] at hpv0
        obtain ⟨NB, hNB⟩ : ∃ x, Wb15.heap.size = x := ⟨_, rfl⟩
        rw [hNB] at hw11 hpv0 hP
        (try rw [hw10])
        (try rw [hNB])
        (try rw [hw11])
        (try rw [hP])
        have HP0 := Lib.hid hpv0
        clear hw10 hw11 hz10 hpv0 hP hNB HN6 E3 E4 E5 E6
        go_upto_block 0 with fail
        go_cut [13, 14, 15] from 97 to 122 (fun _ _ _ wx => ∃ (ds : List ND) (l' : List Int) (wy' : Int) (A : Option Addr) (n c : Nat), n ≤ 4097 ∧ Hid (PvS w X P en tp s7 ds wx l' wy' A n c) ∧ Hid (ds.map ND.norm = nsx))
        case first =>
          go_upto_region 18 with fail
          go_loopw [13, 14, 15] (fun s13 _ _ wr => ∃ (j k : Nat) (s' : RS) (ds : List ND) (l' : List Int) (wy' : Int) (A : Option Addr) (n c : Nat), j + k = nn ∧ Hid (n = j) ∧ n ≤ 4097 ∧ s13 = .int .u64 j ∧ Hid (PvS w X P en tp s' ds wr l' wy' A n c) ∧ Hid (ndsR lk nn k s' (ds.map ND.norm) = (s7, nsx))) (fun s13 _ _ _ => 4097 - (intOf s13).toNat)
          case atStart => exact ⟨1, nm, s6, [ndH nx pv], _, _, _, 1, 1, by omega, (rfl : (1 : Nat) = 1), by omega, rfl, HP0, E7⟩
          case round =>
            obtain ⟨j, k, s', ds, l', wy', A, n, c, hk, hnj, hnb, rfl, hn, hv⟩ := hrel
            clear HP0 E7
            have c2 : wr.cell? ⟨X, 2, none⟩ = some (.int .i64 s'.e) := hn.out.ig.cell 2
            by_cases hk0 : k = 0
            · subst hk0
              obtain ⟨rfl, hds⟩ := ndsR_stop hv.out (.inl rfl)
              have hlt : ¬ j < nn := by omega
              have HDS := Lib.hid hds
              clear hv hds
              go_wp2_with fail
              go_meet
              exact ⟨ds, l', wy', A, n, c, hnb, hn, HDS⟩
            · obtain ⟨k, rfl⟩ : ∃ i, k = i + 1 := ⟨k - 1, by omega⟩
              have hlt : j < nn := by omega
              by_cases he : s'.e = 0
              · have hvb : (s'.e == 0) = true := by simpa using he
                have HRN := Lib.hid (fun W => rf_readNode hn.out.iv lk nn hnn1 hnn W)
                obtain ⟨sd, dx, ed⟩ : ∃ a b, nodR lk nn s' = (a, b) := ⟨_, _, rfl⟩
                rw [ed] at HRN
                have hv2 : Hid (ndsR lk nn k sd (ds.map ND.norm ++ [dx]) = (s7, nsx)) := by
                  have := hv.out
                  rw [ndsR, if_pos he, ed] at this
                  exact this
                have LP20 := load_I hn.out.ig
                clear hv he ed
                go_upto_region 21 with (first
                  | refine wpList_loadT LP20 (by rfl) ?_
                  | (go_at_call 31; (with_reducible refine (HRN.out _).mono ?_); rintro e Wn ⟨l5, wy5, d, he5, h5i, h5d, h5n, h5b⟩; obtain rfl : e = .returned (.tuple #[.agg #[.string (strOfNums l5), .int .i64 wy5, .int .i64 sd.e], .agg #[.int .u64 d.id, .slice d.vec.A d.vec.n d.vec.c, .int .u64 d.tags, .int .i64 d.level, .slice d.LA d.ln d.lc, .int .i64 d.next, .int .i64 d.prev]]) := he5; have HS5 := Lib.hid (hn.out.below h5b); have H5I := Lib.hid h5i; have H5D := Lib.hid h5d; have H5N := Lib.hid h5n; have H5B := Lib.hid h5b.size; clear h5i h5d h5n h5b LP20 c2))
                obtain ⟨W6, hW6⟩ : ∃ q, Wn.alloc (.cells #[.string (strOfNums l5), .int .i64 wy5, .int .i64 sd.e] 73) = q := ⟨_, rfl⟩
                have b6 : Below Wn.heap.size Wn W6 := by rw [← hW6]; exact (Below.refl _ Wn).alloc (Nat.le_refl _) _
                have k6 : Blk W6 Wn.heap.size 73 #[.string (strOfNums l5), .int .i64 wy5, .int .i64 sd.e] := by rw [← hW6]; exact Blk.new _ _ _
                have s6 : W6.heap.size = Wn.heap.size + 1 := by rw [← hW6]; simp only [World.alloc, Array.size_push]
                obtain ⟨W7, hW7⟩ : ∃ q, W6.alloc (.cells #[.int .u64 d.id, .slice d.vec.A d.vec.n d.vec.c, .int .u64 d.tags, .int .i64 d.level, .slice d.LA d.ln d.lc, .int .i64 d.next, .int .i64 d.prev] 42) = q := ⟨_, rfl⟩
                have b7 : Below W6.heap.size W6 W7 := by rw [← hW7]; exact (Below.refl _ W6).alloc (Nat.le_refl _) _
                have k7 : Blk W7 W6.heap.size 42 d.cells := by rw [← hW7]; exact Blk.new _ _ _
                have HS7 := Lib.hid ((HS5.out.below b6).below b7)
                have H7D := (H5D.out.tch (Tch.of_below (S := fun _ => False) b6) fun k hk => ⟨hk.2, fun h => h⟩).tch (Tch.of_below (S := fun _ => False) b7) fun k hk => ⟨by have := b6.size; omega, fun h => h⟩
                have LP21 := load_I (k6.below b7 k6.lt)
                obtain ⟨W8, SR21, k8, t8⟩ := store_I (l := l5) (wy := wy5) (e := sd.e) HS7.out.ig rfl
                have HS8 := Lib.hid (HS7.out.put t8 k8 H5I.out)
                have hXn : X < wr.heap.size := hn.out.ig.lt
                have k78 := k7.tch t8 (by have := b6.size; have := H5B.out; omega)
                have LP22 : (Instr.loadAt 42 (.pointer (some ⟨W6.heap.size, 0, none⟩))).run Try.prog W8 = .ok (.agg #[.int .u64 d.id, .slice d.vec.A d.vec.n d.vec.c, .int .u64 d.tags, .int .i64 d.level, .slice d.LA d.ln d.lc, .int .i64 d.next, .int .i64 d.prev]) W8 := node_loadK k78
                have H8D : Hid (AtN W8 (fun k => wr.heap.size ≤ k ∧ k < W8.heap.size) d) := (H7D.tch t8 fun k hk => ⟨by have := b6.size; have := b7.size; omega, by omega⟩).mono fun k hk => ⟨hk.1, by have := b6.size; have := b7.size; have := t8.size; omega⟩
                have HOB : Hid (∀ k, (Value.slice A n c).ownBlock = some k → k < wr.heap.size) := fun k hk => (hn.out.own.lt k hk).2
                have HPB : Hid (P + 1 ≤ wr.heap.size) := hn.out.sz
                have cP : W8.cell? ⟨P, 0, none⟩ = some (.slice A n c) := HS8.out.pl.cell 0
                have HSX : Hid (X + 1 ≤ W8.heap.size) := by have := HS8.out.sz; have := HS8.out.lx; show _ ≤ _; omega
                rw [s6] at LP22
                (try rw [hW6])
                (try rw [hW7])
                clear hW6 hW7 b6 b7 k6 k7 k8 t8 k78 H7D HS5 HS7 H5I H5D hn HRN s6
                go_wp2_with (first
                  | refine wpList_loadT LP21 (by rfl) ?_
                  | refine wpList_loadT LP22 (by rfl) ?_
                  | refine wpList_storeE SR21 _ _ rfl rfl rfl rfl ?_
                  | (at_builtin; refine wpList_pushJ rfl (.tmp 118) (.tmp 120) 22 42 7 88 _ rfl Try.underlying22 info_node rfl (by decide) W8 (X + 1) (.slice A n c) n (flat ds) #[.int .u64 d.id, .slice d.vec.A d.vec.n d.vec.c, .int .u64 d.tags, .int .i64 d.level, .slice d.LA d.ln d.lc, .int .i64 d.next, .int .i64 d.prev] rfl HS8.out.own rfl rfl (ndL_one d) (by omega) (by decide) HSX.out ?_; intro b c8 W9 ho hgr hb5 hat; have HPP := Lib.hid (HS8.out.push (d := d) HOB.out HPB.out H8D.out hgr hat ho); have hq9 := HS8.out.pl.tch (grownBy_tchJ hgr) (fun h => HS8.out.ne h.symm); have c45 : W9.cell? ⟨P, 0, none⟩ = some (.slice A n c) := hq9.cell 0; have f45 := hq9.frozen 0; clear ho hgr hb5 hat hq9 cP LP21 LP22 SR21))
                go_roundw
                case rel => exact ⟨j + 1, k, sd, _, _, _, _, n + 1, _, by omega, (by rw [hnj.out] : n + 1 = j + 1), by have := hnj.out; omega, by go_num, HPP, by
                  show ndsR _ _ _ _ _ = _
                  rw [List.map_append, List.map_singleton, H5N.out]
                  exact hv2.out⟩
                case measure => simp [intOf]; omega
              · obtain ⟨rfl, hds⟩ := ndsR_stop hv.out (.inr he)
                have hvb : (s'.e == 0) = false := by simpa using he
                have HDS := Lib.hid hds
                clear hv he hds
                go_wp2_with fail
                go_meet
                exact ⟨ds, l', wy', A, n, c, hnb, hn, HDS⟩
        case rest =>
        obtain ⟨ds, l', wy', A, n, c, hnb, hn, HDS⟩ := hcut
        clear HP0 E7
        obtain ⟨V, hV⟩ : ∃ x, wc = x := ⟨_, rfl⟩
        rw [hV] at hn ⊢
        clear hV
        have c2 : V.cell? ⟨X, 2, none⟩ = some (.int .i64 s7.e) := hn.out.ig.cell 2
        by_cases he7 : s7.e = 0
        · have hv7 : (s7.e != 0) = false := by simpa using he7
          obtain ⟨rfl, _⟩ := hn.out.iv.1 he7
          have c0 : V.cell? ⟨X, 0, none⟩ = some (.string (strOfNums s7.l)) := hn.out.ig.cell 0
          have hs7 := strOfNums_size s7.l
          by_cases hl7 : s7.l.length = 0
          · have hl0 : ¬ (s7.l.length : Int) > 0 := by omega
            have HY : Hid (whyR ⟨s7, nsx, en, tp, lk⟩ = chkW ds lk en tp) := by show _ = _; unfold whyR; rw [if_pos he7, if_pos hl7, ← HDS.out]; unfold chkW; simp only [chkB_norm]
            have hpgs : PgS V (fun k => X + 1 ≤ k ∧ k < V.heap.size ∧ k ≠ P) A n c ds := by
              refine ⟨?_, by omega, hn.out.len, fun h0 => ?_, fun d hd => (hn.out.nds d hd).mono fun k hk => ⟨hk.1, hk.2.1, hk.2.2.1⟩⟩
              · intro e
                rcases hn.out.own.2 with ⟨q, q0⟩ | ⟨x, cap, cur, q, _⟩
                · injection q with _ q2 q3; exact ⟨q2, q3⟩
                · injection q with q1 _ _; exact absurd (e.symm.trans q1) (by simp)
              · obtain ⟨x, e, hx, _, _, hr⟩ := Rw.of_own hn.out.own h0
                exact ⟨x, e, ⟨hx, hr.lt, fun hxp => hn.out.ne (by rw [e, hxp]; rfl)⟩, hr⟩
            have HPG := Lib.hid hpgs
            have LP27 := plane_loadM hn.out.pl
            have HCK := Lib.hid (rf_check A n c ds en tp lk V (hpgs.pgr (B := V.heap.size) fun k hk => hk.2.1).1)
            unfold pgL at LP27 HCK
            obtain ⟨y, hy⟩ : ∃ y, chkW ds lk en tp = y := ⟨_, rfl⟩
            rw [hy] at HCK HY
            have hy07 : y = 0 ∨ y = 7 := by rw [← hy]; unfold chkW; split <;> simp
            clear hy hpgs
            by_cases hy0 : y = 0
            · subst hy0
              have HE : Hid (readR l = ⟨nsx, en, tp, lk, 0⟩) := by show _ = _; rw [HP.out]; unfold irP; rw [HY.out, if_pos rfl]
              clear he7 hl7
              go_upto_region 29 with (first
                | refine wpList_loadT LP27 (by rfl) ?_
                | (go_at_call 32; (with_reducible refine HCK.out.mono ?_); rintro e W7 ⟨rfl, hb7⟩; have HB7 := Lib.hid hb7; clear hb7))
              clear LP27 HCK c2 c0
              have H7 := Lib.hid (hn.out.below HB7.out)
              have HPG7 := Lib.hid (HPG.out.tch (Tch.of_below (S := fun _ => False) HB7.out) fun k hk => ⟨hk.2.1, fun h => h⟩)
              have LP29 := plane_loadM H7.out.pl
              have SR29 := row_store H7.out.res (pgL A n c en tp) rfl planeT (by simp [pgL, Value.oneCell'])
              obtain ⟨V0, hV0⟩ : ∃ x, W7.setCells w.heap.size 0 (pgL A n c en tp).toList = x := ⟨_, rfl⟩
              have hT0 : Tch (fun k => k = w.heap.size) W7 V0 := by rw [← hV0]; exact Tch.setCells (S := fun k => k = w.heap.size) rfl _ _ _ (Tch.refl _ _)
              have HK0 : Hid (Blk V0 w.heap.size 24 (pgL A n c en tp)) := by show Blk _ _ _ _; rw [← hV0]; exact H7.out.res.put _ rfl
              have HB0 : Hid (Below w.heap.size w V0) := H7.out.bel.trans (hT0.below H7.out.bel.size (by intro k hk; omega))
              have hlx := H7.out.lx
              have HP0 : Hid (PgR V0 V0.heap.size A n c ds) := (HPG7.out.tch hT0 fun k hk => ⟨by have := HB7.out.size; omega, by omega⟩).pgr fun k hk => by have := HB7.out.size; have := hT0.size; omega
              rw [hV0] at SR29
              unfold pgL at LP29 SR29
              clear hV0 hT0
              go_wp2_with (first
                | refine wpList_loadT LP29 (by rfl) ?_
                | refine wpList_storeE SR29 _ _ rfl rfl rfl rfl ?_)
              refine bodyPost_ret (v := .tuple #[.agg (pgL A n c en tp), .int .i64 lk, .int .i64 0]) ?_ rfl (by rw [HE.out]; exact ⟨A, n, c, ds, rfl, HP0.out, HDS.out, HB0.out⟩)
              exact results_row12 Try.results10 _ rfl HK0.out Try.underlying24 rfl planeT
            · obtain rfl : y = 7 := by omega
              have HE : Hid (readR l = irE 7) := by show _ = _; rw [HP.out]; unfold irP; rw [HY.out]; rfl
              clear he7 hl7
              go_upto_region 28 with (first
                | refine wpList_loadT LP27 (by rfl) ?_
                | (go_at_call 32; (with_reducible refine HCK.out.mono ?_); rintro e W7 ⟨rfl, hb7⟩; have HB7 := Lib.hid hb7; clear hb7))
              clear LP27 HCK c2 c0
              have H7 := Lib.hid (hn.out.below HB7.out)
              have SR0 := row_store H7.out.res (pgL none 0 0 0 0) rfl planeT (by simp [pgL, Value.oneCell'])
              obtain ⟨W0, hW0⟩ : ∃ x, W7.setCells w.heap.size 0 (pgL none 0 0 0 0).toList = x := ⟨_, rfl⟩
              have HK0 : Hid (Blk W0 w.heap.size 24 (pgL none 0 0 0 0)) := by show Blk _ _ _ _; rw [← hW0]; exact H7.out.res.put _ rfl
              have HB0 : Hid (Below w.heap.size w W0) := by show Below _ _ _; rw [← hW0]; exact below_setCells H7.out.bel (Nat.le_refl _) (Nat.le_refl _) _ _
              rw [hW0] at SR0
              clear hW0
              unfold pgL at SR0
              go_wp2_with (refine wpList_storeE SR0 _ _ rfl rfl rfl rfl ?_)
              refine bodyPost_ret (v := .tuple #[.agg (pgL none 0 0 0 0), .int .i64 0, .int .i64 7]) ?_ rfl (by rw [HE.out]; exact .no 7 HB0.out)
              exact results_row12 Try.results10 _ rfl HK0.out Try.underlying24 rfl planeT
          · have hl0 : (s7.l.length : Int) > 0 := by omega
            have HE : Hid (readR l = irE 9) := by show _ = _; rw [HP.out]; unfold irP whyR; rw [if_pos he7, if_neg hl7]; rfl
            have W7e : Hid True := trivial
            obtain ⟨W7, hW7⟩ : ∃ x, V = x := ⟨_, rfl⟩
            rw [hW7] at hn c2 c0 ⊢
            clear hW7 he7
            have H7 := hn
            have SR0 := row_store H7.out.res (pgL none 0 0 0 0) rfl planeT (by simp [pgL, Value.oneCell'])
            obtain ⟨W0, hW0⟩ : ∃ x, W7.setCells w.heap.size 0 (pgL none 0 0 0 0).toList = x := ⟨_, rfl⟩
            have HK0 : Hid (Blk W0 w.heap.size 24 (pgL none 0 0 0 0)) := by show Blk _ _ _ _; rw [← hW0]; exact H7.out.res.put _ rfl
            have HB0 : Hid (Below w.heap.size w W0) := by show Below _ _ _; rw [← hW0]; exact below_setCells H7.out.bel (Nat.le_refl _) (Nat.le_refl _) _ _
            rw [hW0] at SR0
            clear hW0
            unfold pgL at SR0
            go_wp2_with (refine wpList_storeE SR0 _ _ rfl rfl rfl rfl ?_)
            refine bodyPost_ret (v := .tuple #[.agg (pgL none 0 0 0 0), .int .i64 0, .int .i64 9]) ?_ rfl (by rw [HE.out]; exact .no 9 HB0.out)
            exact results_row12 Try.results10 _ rfl HK0.out Try.underlying24 rfl planeT
        · have hv7 : (s7.e != 0) = true := by simpa using he7
          have HE : Hid (readR l = irE s7.e) := by show _ = _; rw [HP.out]; unfold irP whyR; rw [if_neg he7, if_neg he7]
          clear he7
          go_upto_region 24 with fail
          refine wp_region_held_drew (S := fun V' => V'.cell? ⟨X, 2, none⟩ = some (.int .i64 s7.e)) (by kernel_rfl) c2 (fun hH => ?_)
          obtain ⟨U, hU⟩ : ∃ x, V.drew = x := ⟨_, rfl⟩
          have bU : Below V.heap.size V U := by rw [← hU]; exact below_drewN (Below.refl _ V) 1
          rw [hU] at hH ⊢
          clear hU
          have hlx := hn.out.lx.1
          have KU := hn.out.res.below bU hn.out.res.lt
          have SR0 := row_store KU (pgL none 0 0 0 0) rfl planeT (by simp [pgL, Value.oneCell'])
          obtain ⟨U0, hU0⟩ : ∃ x, U.setCells w.heap.size 0 (pgL none 0 0 0 0).toList = x := ⟨_, rfl⟩
          have t0 : Tch (fun k => k = w.heap.size) U U0 := by rw [← hU0]; exact Tch.setCells (S := fun k => k = w.heap.size) rfl _ _ _ (Tch.refl _ _)
          have HK0 : Hid (Blk U0 w.heap.size 24 (pgL none 0 0 0 0)) := by show Blk _ _ _ _; rw [← hU0]; exact KU.put _ rfl
          have HB0 : Hid (Below w.heap.size w U0) := (hn.out.bel.trans (bU.mono hn.out.bel.size)).trans (t0.below (Nat.le_trans hn.out.bel.size bU.size) fun k hk => by omega)
          have hH0 : U0.cell? ⟨X, 2, none⟩ = some (.int .i64 s7.e) := (t0.cell (p := ⟨X, 2, none⟩) (block_lt_of_cell (a := ⟨X, 2, none⟩) hH) (by show ¬ X = _; omega)).trans hH
          rw [hU0] at SR0
          clear hU0 t0 KU bU c2
          refine wpAnyH_take (i := 0) (v := .agg (pgL none 0 0 0 0)) rfl (by kernel_rfl) (by kernel_rfl) (by kernel_rfl) (fun _ _ _ h => h) (.inl ⟨by rfl, fun _ _ => by kernel_rfl⟩) hH ?_
          (try simp only [List.getElem_toArray, List.getElem_cons_zero, Act.put, List.setIfInBounds_toArray, List.set_cons_zero, List.set_cons_succ])
          refine wpAnyH_take (i := 1) (v := .pointer (some ⟨X, 2, none⟩)) rfl (by kernel_rfl) (by kernel_rfl) (by kernel_rfl) (fun _ _ _ h => h) (.inl ⟨by rfl, fun _ _ => by kernel_rfl⟩) hH ?_
          (try simp only [List.getElem_toArray, List.getElem_cons_zero, List.getElem_cons_succ, Act.put, List.setIfInBounds_toArray, List.set_cons_zero, List.set_cons_succ])
          refine wpAnyH_take (i := 2) (v := .int .i64 s7.e) rfl (by kernel_rfl) (by kernel_rfl) (by kernel_rfl) (fun _ _ _ h => h) (yieldsIf_loadP (by rfl) _ rfl rfl (fun _ q => load_errno q)) hH ?_
          (try simp only [List.getElem_toArray, List.getElem_cons_zero, List.getElem_cons_succ, Act.put, List.setIfInBounds_toArray, List.set_cons_zero, List.set_cons_succ])
          refine wpAnyH_store 3 _ _ _ (by kernel_rfl) (by rfl) (by kernel_rfl) (by rfl) (by rfl) (by rfl) SR0 hH0 ?_
          (try simp only [List.getElem_toArray, List.getElem_cons_zero, List.getElem_cons_succ, Act.put])
          refine wpAnyH_take (i := 4) (v := .int .i64 0) rfl (by kernel_rfl) (by kernel_rfl) (by kernel_rfl) (fun _ _ _ h => h) (.inl ⟨by rfl, fun _ _ => by kernel_rfl⟩) hH0 ?_
          (try simp only [List.getElem_toArray, List.getElem_cons_zero, List.getElem_cons_succ, Act.put, List.setIfInBounds_toArray, List.set_cons_zero, List.set_cons_succ])
          refine wpAnyH_take (i := 5) (v := .int .i64 s7.e) rfl (by kernel_rfl) (by kernel_rfl) (by kernel_rfl) (fun _ _ _ h => h) (.inl ⟨by rfl, fun _ _ => by kernel_rfl⟩) hH0 ?_
          (try simp only [List.getElem_toArray, List.getElem_cons_zero, List.getElem_cons_succ, Act.put, List.setIfInBounds_toArray, List.set_cons_zero, List.set_cons_succ])
          refine wpAnyH_done (by kernel_rfl) ?_ _
          clear SR0 hH hH0
          go_wp2_with fail
          refine bodyPost_ret (v := .tuple #[.agg (pgL none 0 0 0 0), .int .i64 0, .int .i64 s7.e]) ?_ rfl (by rw [HE.out]; exact .no s7.e HB0.out)
          exact results_row12 Try.results10 _ rfl HK0.out Try.underlying24 rfl planeT
      · have hvb : (s2.e != 0) = true := by simpa using he
        have HE : Hid (readR l = irE s2.e) := by show _ = _; rw [HR.out, HPN.out, if_neg he]; unfold irP whyR; rw [if_neg he, if_neg he]
        have hn := HN2
        clear he HPN HR
        go_upto_region 11 with fail
        obtain ⟨V, hV⟩ : ∃ x, Wb9 = x := ⟨_, rfl⟩
        rw [hV] at hn c2 ⊢
        clear hV HN2
        refine wp_region_held_drew (S := fun V' => V'.cell? ⟨X, 2, none⟩ = some (.int .i64 s2.e)) (by kernel_rfl) c2 (fun hH => ?_)
        obtain ⟨U, hU⟩ : ∃ x, V.drew = x := ⟨_, rfl⟩
        have bU : Below V.heap.size V U := by rw [← hU]; exact below_drewN (Below.refl _ V) 1
        rw [hU] at hH ⊢
        clear hU
        have hlx := hn.out.lx
        have KU := hn.out.res.below bU hn.out.res.lt
        have SR0 := row_store KU (pgL none 0 0 0 0) rfl planeT (by simp [pgL, Value.oneCell'])
        obtain ⟨U0, hU0⟩ : ∃ x, U.setCells w.heap.size 0 (pgL none 0 0 0 0).toList = x := ⟨_, rfl⟩
        have t0 : Tch (fun k => k = w.heap.size) U U0 := by rw [← hU0]; exact Tch.setCells (S := fun k => k = w.heap.size) rfl _ _ _ (Tch.refl _ _)
        have HK0 : Hid (Blk U0 w.heap.size 24 (pgL none 0 0 0 0)) := by show Blk _ _ _ _; rw [← hU0]; exact KU.put _ rfl
        have HB0 : Hid (Below w.heap.size w U0) := (hn.out.bel.trans (bU.mono hn.out.bel.size)).trans (t0.below (Nat.le_trans hn.out.bel.size bU.size) fun k hk => by omega)
        have hH0 : U0.cell? ⟨X, 2, none⟩ = some (.int .i64 s2.e) := (t0.cell (p := ⟨X, 2, none⟩) (block_lt_of_cell (a := ⟨X, 2, none⟩) hH) (by show ¬ X = _; omega)).trans hH
        rw [hU0] at SR0
        clear hU0 t0 KU bU c2
        refine wpAnyH_take (i := 0) (v := .agg (pgL none 0 0 0 0)) rfl (by kernel_rfl) (by kernel_rfl) (by kernel_rfl) (fun _ _ _ h => h) (.inl ⟨by rfl, fun _ _ => by kernel_rfl⟩) hH ?_
        (try simp only [List.getElem_toArray, List.getElem_cons_zero, Act.put, List.setIfInBounds_toArray, List.set_cons_zero, List.set_cons_succ])
        refine wpAnyH_take (i := 1) (v := .pointer (some ⟨X, 2, none⟩)) rfl (by kernel_rfl) (by kernel_rfl) (by kernel_rfl) (fun _ _ _ h => h) (.inl ⟨by rfl, fun _ _ => by kernel_rfl⟩) hH ?_
        (try simp only [List.getElem_toArray, List.getElem_cons_zero, List.getElem_cons_succ, Act.put, List.setIfInBounds_toArray, List.set_cons_zero, List.set_cons_succ])
        refine wpAnyH_take (i := 2) (v := .int .i64 s2.e) rfl (by kernel_rfl) (by kernel_rfl) (by kernel_rfl) (fun _ _ _ h => h) (yieldsIf_loadP (by rfl) _ rfl rfl (fun _ q => load_errno q)) hH ?_
        (try simp only [List.getElem_toArray, List.getElem_cons_zero, List.getElem_cons_succ, Act.put, List.setIfInBounds_toArray, List.set_cons_zero, List.set_cons_succ])
        refine wpAnyH_store 3 _ _ _ (by kernel_rfl) (by rfl) (by kernel_rfl) (by rfl) (by rfl) (by rfl) SR0 hH0 ?_
        (try simp only [List.getElem_toArray, List.getElem_cons_zero, List.getElem_cons_succ, Act.put])
        refine wpAnyH_take (i := 4) (v := .int .i64 0) rfl (by kernel_rfl) (by kernel_rfl) (by kernel_rfl) (fun _ _ _ h => h) (.inl ⟨by rfl, fun _ _ => by kernel_rfl⟩) hH0 ?_
        (try simp only [List.getElem_toArray, List.getElem_cons_zero, List.getElem_cons_succ, Act.put, List.setIfInBounds_toArray, List.set_cons_zero, List.set_cons_succ])
        refine wpAnyH_take (i := 5) (v := .int .i64 s2.e) rfl (by kernel_rfl) (by kernel_rfl) (by kernel_rfl) (fun _ _ _ h => h) (.inl ⟨by rfl, fun _ _ => by kernel_rfl⟩) hH0 ?_
        (try simp only [List.getElem_toArray, List.getElem_cons_zero, List.getElem_cons_succ, Act.put, List.setIfInBounds_toArray, List.set_cons_zero, List.set_cons_succ])
        refine wpAnyH_done (by kernel_rfl) ?_ _
        clear SR0 hH hH0
        go_wp2_with fail
        refine bodyPost_ret (v := .tuple #[.agg (pgL none 0 0 0 0), .int .i64 0, .int .i64 s2.e]) ?_ rfl (by rw [HE.out]; exact .no s2.e HB0.out)
        exact results_row12 Try.results10 _ rfl HK0.out Try.underlying24 rfl planeT
    · rw [if_pos hs] at HR
      obtain rfl : qb = true := by rw [← hqb, decide_eq_false hs]; rfl
      clear hs hqb
      have SR0 := row_store HKW.out (pgL none 0 0 0 0) rfl planeT (by simp [pgL, Value.oneCell'])
      obtain ⟨W0, hW0⟩ : ∃ x, W5.setCells w.heap.size 0 (pgL none 0 0 0 0).toList = x := ⟨_, rfl⟩
      have HK0 : Hid (Blk W0 w.heap.size 24 (pgL none 0 0 0 0)) := by show Blk _ _ _ _; rw [← hW0]; exact HKW.out.put _ rfl
      have HB0 : Hid (Below w.heap.size w W0) := by show Below _ _ _; rw [← hW0]; exact below_setCells HBW.out (Nat.le_refl _) (Nat.le_refl _) _ _
      rw [hW0] at SR0
      clear hW0
      unfold pgL at SR0
      go_wp2_with (refine wpList_storeE SR0 _ _ rfl rfl rfl rfl ?_)
      refine bodyPost_ret (v := .tuple #[.agg (pgL none 0 0 0 0), .int .i64 0, .int .i64 14]) ?_ rfl (by rw [HR.out]; exact .no 14 HB0.out)
      exact results_row12 Try.results10 _ rfl HK0.out Try.underlying24 rfl planeT
  · rw [if_pos hp] at HR
    have hpb : ((strOfNums (l.take 4)).toList == [71, 78, 71, 49]) = false := by rw [← mk_list, str_toList _ _ (HBY.out.take 4) mk_bytes, decide_eq_false hp]
    clear hp
    go_enter Try.func10, Try.ntmps10
    go_upto_region 1 with fail
    (try rw [hw1])
    clear hw1
    go_wp2_with (refine wpList_storeE SR0 _ _ rfl rfl rfl rfl ?_)
    refine bodyPost_ret (v := .tuple #[.agg (pgL none 0 0 0 0), .int .i64 0, .int .i64 7]) ?_ rfl (by rw [HR.out]; exact .no 7 HB0.out)
    exact results_row12 Try.results10 _ rfl HK0.out Try.underlying24 rfl planeT
end Go.Proofs.Ytbpcddimnbjoeaa
