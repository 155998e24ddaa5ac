/- Plain laws: a mask is read from its text, and a text that is read is its mask's. -/
import Derived.Test.YtokgcjhlmohjgaaDoorTagQ
namespace Go.Proofs.YtokgcjhlmohjgaaDoor
open Go.RowKit
theorem splitL_ne : ∀ s : List Int, splitL s ≠ []
  | [] => by simp [splitL]
  | c :: r => by
    rw [splitL]; split
    · simp
    · split <;> simp
theorem joinT_cons (p : List Int) (l : List (List Int)) : joinT (p :: l) = 43 :: joinP (p :: l) := rfl
theorem join_split : ∀ s : List Int, joinP (splitL s) = s
  | [] => rfl
  | c :: r => by
    have ih := join_split r
    rw [splitL]
    cases hq : splitL r with
    | nil => exact absurd hq (splitL_ne r)
    | cons p ps =>
      rw [hq] at ih
      split
      · rename_i e
        subst e
        show [] ++ joinT (p :: ps) = _
        rw [joinT_cons, ih]; rfl
      · show (c :: p) ++ joinT ps = _
        rw [← ih]; rfl
theorem join_parts (s : List Int) : joinP (partsE s) = s := by
  unfold partsE
  split
  · rename_i h; rw [h]; rfl
  · exact join_split s
theorem split_app : ∀ (t r : List Int), (∀ c ∈ t, c ≠ 43) → splitL (t ++ 43 :: r) = t :: splitL r
  | [], r, _ => by rw [List.nil_append, splitL, if_pos rfl]
  | c :: t, r, h => by
    have ih := split_app t r fun x hx => h x (List.mem_cons_of_mem _ hx)
    rw [List.cons_append, splitL, if_neg (h c (by simp)), ih]
theorem split_one : ∀ (t : List Int), (∀ c ∈ t, c ≠ 43) → splitL t = [t]
  | [], _ => rfl
  | c :: t, h => by
    have ih := split_one t fun x hx => h x (List.mem_cons_of_mem _ hx)
    rw [splitL, if_neg (h c (by simp)), ih]
theorem split_join : ∀ (t : List Int) (l : List (List Int)), (∀ u ∈ t :: l, ∀ c ∈ u, c ≠ 43) → splitL (joinP (t :: l)) = t :: l
  | t, [], h => by
    show splitL (t ++ []) = _
    rw [List.append_nil]
    exact split_one t (h t (by simp))
  | t, u :: l, h => by
    show splitL (t ++ joinT (u :: l)) = _
    rw [joinT_cons, split_app t _ (h t (by simp)), split_join u l fun v hv => h v (List.mem_cons_of_mem _ hv)]
theorem parts_join (l : List (List Int)) (h : ∀ u ∈ l, u ≠ [] ∧ ∀ c ∈ u, c ≠ 43) : partsE (joinP l) = l := by
  unfold partsE
  cases l with
  | nil => rfl
  | cons t l =>
    have h1 : joinP (t :: l) ≠ [] := by
      intro e
      have : t ++ joinT l = [] := e
      exact (h t (by simp)).1 (List.append_eq_nil_iff.1 this).1
    rw [if_neg h1]
    exact split_join t l fun u hu => (h u hu).2
/-- What rises and has each number once is known by its numbers. -/
theorem rise_ext : ∀ (a b : List Int), a.Pairwise (· < ·) → b.Pairwise (· < ·) → (∀ x, x ∈ a ↔ x ∈ b) → a = b
  | [], [], _, _, _ => rfl
  | [], y :: b, _, _, h => absurd ((h y).2 (by simp)) (by simp)
  | x :: a, [], _, _, h => absurd ((h x).1 (by simp)) (by simp)
  | x :: a, y :: b, ha, hb, h => by
    rw [List.pairwise_cons] at ha hb
    have e : x = y := by
      have h1 := (h x).1 (by simp)
      have h2 := (h y).2 (by simp)
      rcases List.mem_cons.1 h1 with q | q
      · exact q
      · rcases List.mem_cons.1 h2 with q2 | q2
        · exact q2.symm
        · have := ha.1 _ q2; have := hb.1 _ q; omega
    subst e
    congr 1
    refine rise_ext a b ha.2 hb.2 fun z => ?_
    constructor
    · intro hz
      rcases List.mem_cons.1 ((h z).1 (List.mem_cons_of_mem _ hz)) with q | q
      · have := ha.1 _ hz; omega
      · exact q
    · intro hz
      rcases List.mem_cons.1 ((h z).2 (List.mem_cons_of_mem _ hz)) with q | q
      · have := hb.1 _ hz; omega
      · exact q
theorem lst_pw (p : Nat → Bool) : ∀ n, (lst p n).Pairwise (· < ·)
  | 0 => by simp [lst]
  | n + 1 => by
    rw [lst_succ, List.pairwise_append]
    refine ⟨lst_pw p n, by split <;> simp, fun a ha b hb => ?_⟩
    obtain ⟨k, rfl, hk, _⟩ := mem_lst.1 ha
    split at hb
    · simp at hb; subst hb; omega
    · cases hb
theorem mb_pl (m : Nat) : Pl (mb m) := fun i hi => by
  obtain ⟨k, rfl, hk, _⟩ := mem_lst.1 hi
  omega
theorem rise_mb {l : List Int} (hp : Pl l) (h : l.Pairwise (· < ·)) : mb (mOf l) = l := by
  refine rise_ext _ _ (lst_pw _ _) h fun x => ?_
  constructor
  · intro hx
    obtain ⟨k, rfl, hk, hb⟩ := mem_lst.1 hx
    rw [mOf_mem hp] at hb
    exact of_decide_eq_true hb
  · intro hx
    have := hp x hx
    refine mem_lst.2 ⟨x.toNat, by omega, by omega, ?_⟩
    rw [mOf_mem hp]
    refine decide_eq_true ?_
    rw [show ((x.toNat : Nat) : Int) = x by omega]; exact hx
theorem mOf_mb {m : Nat} (hm : m < 18446744073709551616) : mOf (mb m) = m := by
  refine Nat.eq_of_testBit_eq fun i => ?_
  rw [mOf_mem (mb_pl m)]
  cases h : m.testBit i with
  | true =>
    refine decide_eq_true (mem_lst.2 ⟨i, rfl, ?_, h⟩)
    apply Classical.byContradiction
    intro g
    have := Nat.testBit_lt_two_pow (x := m) (i := i) (Nat.lt_of_lt_of_le hm (Nat.pow_le_pow_right (n := 2) (i := 64) (by decide) (by omega)))
    rw [h] at this; cases this
  | false =>
    refine decide_eq_false fun hx => ?_
    obtain ⟨k, e, _, hb⟩ := mem_lst.1 hx
    have : k = i := by omega
    rw [this, h] at hb; cases hb
theorem pair_of_srt {l : List Int} (h : srtB l = true) (hn : l.Nodup) : l.Pairwise (· < ·) := by
  have hs := srt_iff.1 h
  have hle : ∀ d i, i + d < l.length → ig l i ≤ ig l (i + d) := by
    intro d
    induction d with
    | zero => intro i _; exact Int.le_refl _
    | succ d ih =>
      intro i hi
      have h1 := ih i (by omega)
      have h2 := hs (i + d) (by omega)
      rw [show i + (d + 1) = i + d + 1 by omega]; omega
  rw [List.pairwise_iff_getElem]
  intro i j hi hj hij
  have h1 := hle (j - i) i (by omega)
  rw [show i + (j - i) = j by omega] at h1
  have e : ∀ q (hq : q < l.length), ig l q = l[q] := fun q hq => by simp [ig, List.getD_eq_getElem?_getD, hq]
  rw [e i hi, e j hj] at h1
  have h2 : l[i] ≠ l[j] := by
    have := List.pairwise_iff_getElem.1 hn i j hi hj hij
    exact this
  omega
theorem srt_of_pair {l : List Int} (h : l.Pairwise (· < ·)) : srtB l = true := by
  rw [srt_iff]
  intro k hk
  have e : ∀ q (hq : q < l.length), ig l q = l[q] := fun q hq => by simp [ig, List.getD_eq_getElem?_getD, hq]
  rw [e k (by omega), e (k + 1) hk]
  have := List.pairwise_iff_getElem.1 h k (k + 1) (by omega) hk (by omega)
  omega
theorem nodup_of_pair {l : List Int} (h : l.Pairwise (· < ·)) : l.Nodup := h.imp fun h => by omega
theorem tg_eq {ts : List (List Int)} {k : Nat} (hk : k < ts.length) : tg ts k = ts[k] := tg_get hk
theorem fi_tg {ts : List (List Int)} (hn : ts.Nodup) {k : Nat} (hk : k < ts.length) : fiE ts (tg ts k) = k := by
  refine fi_hit hk (fun q hq e => ?_) rfl
  rw [tg_get (by omega : q < ts.length), tg_get hk] at e
  exact List.pairwise_iff_getElem.1 hn q k (by omega) hk hq e
theorem tg_fi {ts : List (List Int)} {t : List Int} (h : 0 ≤ fiE ts t) : tg ts (fiE ts t).toNat = t := by
  unfold fiE at h ⊢
  split at h
  · rename_i hm
    rw [if_pos hm, Int.toNat_natCast]
    have := List.idxOf_lt_length_iff.2 hm
    rw [tg_get this]; exact List.getElem_idxOf this
  · omega
theorem name_in {t : List Int} (h : nameB t = true) : t ≠ [] ∧ ∀ c ∈ t, c ≠ 43 := by
  unfold nameB at h
  simp at h
  refine ⟨h.1.2, fun c hc e => ?_⟩
  have := h.1.1 c hc
  subst e
  revert this; decide
theorem hi_fit {ts : List (List Int)} {m : Nat} (hm : m < 18446744073709551616) (h : m / 2 ^ ts.length = 0) : ∀ i ∈ mb m, i.toNat < ts.length := fun i hi => by
  obtain ⟨q, hq, rfl⟩ := List.getElem_of_mem hi
  have h1 := (hi_zero hm).1 h q hq
  have e : ig (mb m) q = (mb m)[q] := by simp [ig, List.getD_eq_getElem?_getD, hq]
  rw [e] at h1
  have := mb_pl m _ (List.getElem_mem hq)
  omega
/-- A mask is read from its text. -/
theorem text_back {ts : List (List Int)} {m : Nat} (hm : m < 18446744073709551616) (h : nmW ts m = 0) : prsM ts (txL ts m) = m ∧ prsW ts (txL ts m) = 0 := by
  have hc : chkE ts = 0 := by
    apply Classical.byContradiction; intro hc
    exact hc ((nm_chk hc).1 ▸ h)
  have hz : m / 2 ^ ts.length = 0 := by
    apply Classical.byContradiction; intro hz
    have := (nm_range hc hz).1
    omega
  obtain ⟨_, hall, hnd⟩ := chk_zero hc
  have hl : nmL ts m = nmE ts m := (nm_ok hc hz).2
  have hp : partsE (txL ts m) = nmE ts m := by
    unfold txL; rw [hl]
    refine parts_join _ fun u hu => ?_
    rw [← hl] at hu
    exact name_in (nmL_mem hm hu).2.1
  have ha : atsE ts (txL ts m) = mb m := by
    unfold atsE; rw [hp]; unfold nmE; rw [List.map_map]
    refine (List.map_congr_left fun i hi => ?_).trans (List.map_id _)
    have h1 := hi_fit hm hz i hi
    have h2 := mb_pl m i hi
    show fiE ts (tg ts i.toNat) = i
    rw [fi_tg hnd h1]; omega
  have hr : (mb m).Pairwise (· < ·) := lst_pw _ _
  have := prs_ok (ts := ts) (s := txL ts m) hc (by
    rw [ha]; intro k hk
    exact (mb_pl m _ (ig_mem2 hk)).1) (by rw [ha]; exact nodup_of_pair hr) (by rw [ha]; exact srt_of_pair hr)
  rw [ha, mOf_mb hm] at this
  exact ⟨this.2, this.1⟩
/-- What was read is places of a word. -/
theorem parse_facts {ts : List (List Int)} {s : List Int} (h : prsW ts s = 0) : chkE ts = 0 ∧ (∀ i ∈ atsE ts s, 0 ≤ i) ∧ (atsE ts s).Nodup ∧ srtB (atsE ts s) = true ∧ Pl (atsE ts s) := by
  have hc : chkE ts = 0 := by
    apply Classical.byContradiction; intro hc
    exact hc ((prs_chk hc).1 ▸ h)
  have hm : ∀ i ∈ atsE ts s, 0 ≤ i := by
    intro i hi
    apply Classical.byContradiction; intro g
    obtain ⟨k, hk, rfl⟩ := List.getElem_of_mem hi
    have e : ig (atsE ts s) k = (atsE ts s)[k] := by simp [ig, List.getD_eq_getElem?_getD, hk]
    have := (prs_miss hc hk (by rw [e]; omega)).1
    omega
  have hm' : ∀ k, k < (atsE ts s).length → 0 ≤ ig (atsE ts s) k := fun k hk => hm _ (ig_mem2 hk)
  have hn : (atsE ts s).Nodup := by
    apply Classical.byContradiction; intro g
    have := (prs_twice hc hm' g).1
    omega
  have hs : srtB (atsE ts s) = true := by
    cases e : srtB (atsE ts s) with
    | true => rfl
    | false => have := (prs_order hc hm' hn e).1; omega
  obtain ⟨h64, _, _⟩ := chk_zero hc
  refine ⟨hc, hm, hn, hs, fun i hi => ⟨hm i hi, ?_⟩⟩
  unfold atsE at hi
  obtain ⟨t, _, rfl⟩ := List.mem_map.1 hi
  have := (fi_bd ts t).1
  omega
theorem parse_pl {ts : List (List Int)} {s : List Int} (h : prsW ts s = 0) : Pl (atsE ts s) := (parse_facts h).2.2.2.2
/-- A text that is read is its mask's. -/
theorem parse_back {ts : List (List Int)} {s : List Int} (h : prsW ts s = 0) : nmW ts (prsM ts s) = 0 ∧ txL ts (prsM ts s) = s := by
  obtain ⟨hc, hm, hn, hs, hpl⟩ := parse_facts h
  have hm' : ∀ k, k < (atsE ts s).length → 0 ≤ ig (atsE ts s) k := fun k hk => hm _ (ig_mem2 hk)
  have hmb := rise_mb hpl (pair_of_srt hs hn)
  have hM : prsM ts s = mOf (atsE ts s) := (prs_ok hc hm' hn hs).2
  rw [hM]
  have hlt := mOf_lt hpl
  have hz : mOf (atsE ts s) / 2 ^ ts.length = 0 := by
    rw [hi_zero hlt]
    intro q hq
    rw [hmb] at hq ⊢
    have hi := ig_mem2 hq
    unfold atsE at hi
    obtain ⟨t, _, e⟩ := List.mem_map.1 hi
    have := (fi_bd ts t).1
    rw [e] at this
    exact this
  refine ⟨(nm_ok hc hz).1, ?_⟩
  unfold txL
  rw [(nm_ok hc hz).2]
  have e : nmE ts (mOf (atsE ts s)) = partsE s := by
    unfold nmE; rw [hmb]; unfold atsE; rw [List.map_map]
    refine (List.map_congr_left fun t ht => ?_).trans (List.map_id _)
    show tg ts (fiE ts t).toNat = t
    refine tg_fi (hm _ ?_)
    unfold atsE
    exact List.mem_map.2 ⟨t, ht, rfl⟩
  rw [e, join_parts]
end Go.Proofs.YtokgcjhlmohjgaaDoor
