/- Slices of ints: DeleteFunc, over whatever function. -/
import Derived.Test.YtckclflbcgblaaaPlX
namespace Go.Proofs.Ytckclflbcgblaaa
open Go.RowKit
/-- 'clear(s)', s a slice of n > 0 ints. -/
theorem clear_ints {P : Program} (w : World) (t e ty : TypeId) (z : Value) (ht : P.underlying t = some (.slice e)) (hv : ∀ w, (zeroValue e).run P w = .ok z w) (hz : z.cells = #[.int .i64 0]) (b o n c : Nat) (hn : 0 < n)
    (hc : ∀ j, j < n → (w.cell? ⟨b, o + j, none⟩).isSome = true) (hf : ∀ j, j < n → w.frozen? ⟨b, o + j, none⟩ = false) :
    (Builtin.clear_ #[t] ty #[.slice (some ⟨b, o, none⟩) n c]).run P w = .ok (.tuple #[]) (w.setCells b o (List.replicate n (.int .i64 0))) := by
  have hzc : (Builtin.zeroCells z.cells n).toList = List.replicate n (.int .i64 0) := by
    rw [hz]
    simp [Builtin.zeroCells]
    apply List.ext_getElem
    · simp
    · intro i h1 h2
      simp [Nat.mod_one]
  have hst := run_storeCells_cells (P := P) b o (List.replicate n (.int .i64 0)) 0 w (by simpa using hc) (by simpa using hf) (by intro v hv'; rw [List.eq_of_mem_replicate hv']; rfl)
  simp only [Nat.add_zero] at hst
  obtain ⟨m, rfl⟩ : ∃ m, n = m + 1 := ⟨n - 1, by omega⟩
  simp [Builtin.clear_, run_underlying ht, hv, hzc, hst]
/-- A row of ints, with room for c. -/
def IBc (w : World) (g c : Nat) (cs : List Int) : Prop := ∃ rest : List Value, w.heap[g]? = some (.cells (cs.map (Value.int .i64) ++ rest).toArray 3 (0, 0)) ∧ cs.length + rest.length = c
theorem IBc.ib {w : World} {g c : Nat} {cs : List Int} (h : IBc w g c cs) : IB w g 3 .i64 cs := by obtain ⟨r, h, _⟩ := h; exact ⟨r, h⟩
theorem IBc.at_ {w w' : World} {g c : Nat} {cs : List Int} (h : IBc w g c cs) (hb : w'.heap[g]? = w.heap[g]?) : IBc w' g c cs := by obtain ⟨r, h, hl⟩ := h; exact ⟨r, hb.trans h, hl⟩
theorem IBc.set_ {w : World} {g c : Nat} {cs : List Int} (h : IBc w g c cs) {k : Nat} (hk : k < cs.length) (u : Int) : IBc (w.setCell ⟨g, k, none⟩ (.int .i64 u)) g c (cs.set k u) := by
  obtain ⟨r, h, hl⟩ := h
  have hb : Blk w g 3 (cs.map (Value.int .i64) ++ r).toArray := h
  have h2 := hb.set_ k (.int .i64 u)
  refine ⟨r, ?_, by simpa using hl⟩
  unfold Blk at h2
  rw [h2]
  congr 2
  apply Array.ext'
  simp only [Array.toList_setIfInBounds]
  rw [List.set_append_left _ _ (by simpa using hk), List.map_set]
theorem IBc.zeros {g c : Nat} : ∀ (n o : Nat) {w : World} {cs : List Int}, IBc w g c cs → o + n ≤ cs.length → ∃ cs', IBc (w.setCells g o (List.replicate n (.int .i64 0))) g c cs' ∧ cs'.length = cs.length ∧ cs'.take o = cs.take o
  | 0, _, _, cs, h, _ => ⟨cs, h, rfl, rfl⟩
  | n + 1, o, w, cs, h, hl => by
    obtain ⟨cs', h1, h2, h3⟩ := IBc.zeros n (o + 1) (h.set_ (k := o) (by omega) 0) (by simp; omega)
    refine ⟨cs', h1, by simpa using h2, ?_⟩
    have h4 : (cs'.take (o + 1)).take o = ((cs.set o 0).take (o + 1)).take o := by rw [h3]
    rw [List.take_take, List.take_take, Nat.min_eq_left (by omega)] at h4
    rw [h4, List.take_set_of_le (by omega)]
theorem OwnI.row {w : World} {B : Nat} {A : Option Addr} {n c : Nat} {xs : List Int} (h : OwnI w B A n c xs) : (A = none ∧ n = 0 ∧ c = 0) ∨ ∃ g, A = some ⟨g, 0, none⟩ ∧ B ≤ g ∧ n ≤ c ∧ c ≤ maxLen ∧ ∃ cs, IBc w g c cs ∧ n ≤ cs.length ∧ cs.take n = xs := by
  rcases h.2 with ⟨e, h0⟩ | ⟨g, cap, cur, e, hg, hh, h1, h2, h3, h4⟩
  · injection e with e1 e2 e3
    exact .inl ⟨e1, h0, e3⟩
  · injection e with e1 e2 e3
    refine .inr ⟨g, e1, hg, by omega, by omega, xs, ⟨cur.toList.drop n, ?_, ?_⟩, by rw [h.len]; exact Nat.le_refl _, by rw [List.take_of_length_le (by rw [h.len]; exact Nat.le_refl _)]⟩
    · rw [hh]
      congr 2
      rw [Nat.mul_one] at h4
      rw [← h4, List.take_append_drop]
    · have hcs : cur.toList.length = cap := by rw [Array.length_toList]; omega
      rw [List.length_drop, hcs, h.len]
      omega
theorem OwnI.of_row {w : World} {B g n c : Nat} {cs : List Int} (h : IBc w g c cs) (hB : B ≤ g) (hn : n ≤ cs.length) (hc : c ≤ maxLen) : OwnI w B (some ⟨g, 0, none⟩) n c (cs.take n) := by
  obtain ⟨r, hh, hl⟩ := h
  refine ⟨by simp; omega, .inr ⟨g, c, _, rfl, hB, hh, by omega, hc, by simp; omega, ?_⟩⟩
  rw [Nat.mul_one]
  rw [List.take_append_of_le_length (by simpa using hn), List.map_take]
/-- What is left of the first k. -/
def keptI (q : Nat → Bool) (xs : List Int) : Nat → List Int
  | 0 => []
  | k + 1 => keptI q xs k ++ if q k then [] else [ig xs k]
theorem keptI_len (q : Nat → Bool) (xs : List Int) : ∀ k, (keptI q xs k).length ≤ k
  | 0 => Nat.le_refl _
  | k + 1 => by
    have := keptI_len q xs k
    show (keptI q xs k ++ _).length ≤ _
    rw [List.length_append]
    split <;> simp <;> omega
theorem keptI_all {q : Nat → Bool} {xs : List Int} : ∀ {k : Nat}, (∀ i, i < k → q i = false) → k ≤ xs.length → keptI q xs k = xs.take k
  | 0, _, _ => by simp [keptI]
  | k + 1, h, hl => by
    show keptI q xs k ++ _ = _
    rw [keptI_all (fun i hi => h i (by omega)) (by omega), h k (by omega), take_step (by omega)]
    rfl
theorem ig_set_ne {l : List Int} {k j : Nat} {u : Int} (h : k ≠ j) : ig (l.set k u) j = ig l j := by
  unfold ig
  rw [List.getD_eq_getElem?_getD, List.getD_eq_getElem?_getD, List.getElem?_set, if_neg h]
/-- In the midst of DeleteFunc. -/
structure DlAt (W : World) (g c n : Nat) (xs : List Int) (q : Nat → Bool) (K : Nat → World → Prop) (i j : Nat) : Prop where
  row : ∃ cs, IBc W g c cs ∧ cs.length = n ∧ cs.take i = keptI q xs j ∧ ∀ k, j ≤ k → ig cs k = ig xs k
  k : K j W
  ij : i < j
  jn : j ≤ n
  il : i = (keptI q xs j).length
theorem stab_cells {g : Nat} {K : World → Prop} (h : ∀ W j u, K W → K (W.setCell ⟨g, j, none⟩ u)) : ∀ (vs : List Value) (o : Nat) (W : World), K W → K (W.setCells g o vs)
  | [], _, _, hk => hk
  | v :: vs, o, W, hk => stab_cells h vs (o + 1) _ (h W o v hk)
def DelR (B : Nat) (A : Option Addr) (n c : Nat) (xs : List Int) (q : Nat → Bool) (K : Nat → World → Prop) (e : Ending) (w' : World) : Prop := ∃ m, e = .returned (.slice A m c) ∧ OwnI w' B A m c (keptI q xs n) ∧ K n w'
theorem elemI : ∀ w, (sizeOf (Try.prog.elem 23)).run Try.prog w = .ok 1 w := fun w => by kernel_rfl
set_option maxRecDepth 100000 in
set_option maxHeartbeats 2000000 in
theorem del_func (A : Option Addr) (n c B : Nat) (xs : List Int) (f : FuncId) (caps : Array Value) (q : Nat → Bool) (K : Nat → World → Prop) (w : World) (hn : n ≤ 2097152)
    (hcf : ∀ args w, (callFunc f args).run Try.prog w = .ok (.enter f args) w) (ho : OwnI w B A n c xs)
    (hcall : ∀ i W, i < n → K i W → Calls Try.prog f (#[.int .i64 (ig xs i)] ++ caps) W fun e w' => e = .returned (.bool (q i)) ∧ K (i + 1) w' ∧ ∀ g, A = some ⟨g, 0, none⟩ → w'.heap[g]? = W.heap[g]?)
    (hstab : ∀ g, A = some ⟨g, 0, none⟩ → ∀ i W j u, K i W → K i (W.setCell ⟨g, j, none⟩ u))
    (h0 : K 0 w) :
    Calls Try.prog 26 #[.slice A n c, .func (.func f) #[] caps] w (DelR B A n c xs q K) := by
  have HI := Lib.hid (idx_func A n c xs f caps q (fun i W => K i W ∧ ∀ g, A = some ⟨g, 0, none⟩ → W.heap[g]? = w.heap[g]?) w hn hcf
    (fun i W hk => by
      rcases ho.row with ⟨rfl, rfl, _⟩ | ⟨g, rfl, _, _, _, cs, hr, hnl, rfl⟩
      · have : xs = [] := List.eq_nil_of_length_eq_zero ho.len
        subst this
        exact Rd.nil_
      · have hr' := hr.at_ (hk.2 g rfl)
        refine ⟨by simp; omega, fun h0 => ⟨g, 0, rfl, hr'.ib.lt, fun j u hu => ?_⟩⟩
        rw [List.getElem?_map, List.getElem?_take] at hu
        split at hu
        · rename_i hj
          rw [Nat.zero_add, hr'.ib.cell (by omega), ← hu, List.getElem?_eq_getElem (by omega), ig, List.getD_eq_getElem?_getD, List.getElem?_eq_getElem (by omega)]
          rfl
        · cases hu)
    (fun i W hi hk => (hcall i W hi hk.1).mono fun e w' ⟨h1, h2, h3⟩ => ⟨h1, h2, fun g hg => (h3 g hg).trans (hk.2 g hg)⟩) ⟨h0, fun _ _ => rfl⟩)
  have HC := Lib.hid hcall
  have HS := Lib.hid hstab
  have HO := Lib.hid ho
  clear hcall hstab ho h0
  go_enter Try.func26, Try.ntmps26
  go_wp2_with fail
  refine HI.out.mono ?_
  rintro e w1 ⟨r, rfl, ⟨rfl, hq, hk, hg⟩ | ⟨i, hi, rfl, hqi, hq, hk, hg⟩⟩
  · have HQ := Lib.hid hq
    have HK := Lib.hid hk
    have HG := Lib.hid hg
    clear hq hk hg HI
    go_wp2_with fail
    go_ret
    refine ⟨n, rfl, ?_, HK.out⟩
    rw [keptI_all HQ.out (by rw [HO.out.len]; exact Nat.le_refl _), List.take_of_length_le (by rw [HO.out.len]; exact Nat.le_refl _)]
    rcases HO.out.row with ⟨rfl, rfl, rfl⟩ | ⟨g, rfl, hB, _, hc, cs, hr, hnl, rfl⟩
    · have : xs = [] := List.eq_nil_of_length_eq_zero HO.out.len
      subst this
      exact OwnI.nil_ _ _
    · exact OwnI.of_row (hr.at_ (HG.out g rfl)) hB hnl hc
  · obtain ⟨g, rfl, hB, hnc, hcm, cs, hr, hnl, hxs⟩ : ∃ g, A = some ⟨g, 0, none⟩ ∧ B ≤ g ∧ n ≤ c ∧ c ≤ maxLen ∧ ∃ cs, IBc w1 g c cs ∧ cs.length = n ∧ cs = xs := by
      rcases HO.out.row with ⟨_, rfl, _⟩ | ⟨g, rfl, hB, hnc, hc, cs, hr, hnl, e⟩
      · omega
      · obtain ⟨rest, hh, hl⟩ := hr.at_ (hg g rfl)
        refine ⟨g, rfl, hB, hnc, hc, xs, ⟨(cs.drop n).map (.int .i64) ++ rest, ?_, ?_⟩, HO.out.len, rfl⟩
        · rw [hh, ← e, ← List.append_assoc, ← List.map_append, List.take_append_drop]
        · rw [List.length_append, List.length_map, List.length_drop, HO.out.len]; omega
    subst hxs
    have HD : Hid (DlAt w1 g c n cs q K i (i + 1)) := by
      have hkp : keptI q cs (i + 1) = cs.take i := by
        show keptI q cs i ++ _ = _
        rw [keptI_all hq (by omega), hqi]
        simp
      refine ⟨⟨cs, hr, hnl, by rw [hkp], fun _ _ => rfl⟩, hk, Nat.lt_succ_self _, hi, ?_⟩
      rw [hkp, List.length_take]
      omega
    have hne : ((i : Int) == -1) = false := beq_false_of_ne (by omega)
    have HP : Hid (B ≤ g ∧ n ≤ c ∧ c ≤ maxLen) := ⟨hB, hnc, hcm⟩
    clear hqi hq hk hg HI hr hnl hB hnc hcm HO
    go_wp2_with fail
    go_loopw [5, 6] (fun s5 s6 wx => ∃ i j : Nat, i ≤ n ∧ j ≤ n ∧ s5 = .int .i64 i ∧ s6 = .int .i64 j ∧ Hid (DlAt wx g c n cs q K i j)) (fun _ s6 _ => n - (intOf s6).toNat)
    case atStart => exact ⟨i, i + 1, by omega, hi, rfl, by go_num, HD⟩
    case round =>
      clear HD
      obtain ⟨i, j, hin, hjn, rfl, rfl, HD⟩ := hrel
      by_cases hlt : j < n
      · obtain ⟨cur, q1, q2, q3, q4⟩ := HD.out.row
        have c1 := q1.ib.cell (k := j) (by omega)
        have ci := q1.ib.cell (k := i) (by have := HD.out.ij; omega)
        have f1 := q1.ib.frozen
        rw [q4 j (Nat.le_refl _)] at c1
        have HCJ := Lib.hid (HC.out j wr hlt HD.out.k)
        obtain ⟨x, hx⟩ : ∃ x, ig cs j = x := ⟨_, rfl⟩
        rw [hx] at c1 HCJ
        have Q1 := Lib.hid q1
        have Q2 := Lib.hid q2
        have Q3 := Lib.hid q3
        have Q4 := Lib.hid q4
        have HX := Lib.hid hx
        have hij := HD.out.ij
        clear q1 q2 q3 q4 hx ci f1
        cases hqj : q j with
        | true =>
          rw [hqj] at HCJ
          have HQJ := Lib.hid hqj
          clear hqj
          go_wp2_with fail
          refine HCJ.out.mono ?_
          rintro e w2 ⟨rfl, hk2, hg2⟩
          have HD2 : Hid (DlAt w2 g c n cs q K i (j + 1)) := by
            have hkp : keptI q cs (j + 1) = keptI q cs j := by
              show keptI q cs j ++ _ = _
              rw [HQJ.out]; simp
            exact ⟨⟨cur, Q1.out.at_ (hg2 g rfl), Q2.out, by rw [hkp]; exact Q3.out, fun k hk => Q4.out k (by omega)⟩, hk2, by omega, hlt, by rw [hkp]; exact HD.out.il⟩
          clear hk2 hg2
          go_wp2_with fail
          go_roundw
          case rel => exact ⟨i, j + 1, hin, by omega, rfl, by go_num, HD2⟩
          case measure => simp [intOf]; omega
        | false =>
          rw [hqj] at HCJ
          have HQJ := Lib.hid hqj
          clear hqj
          go_wp2_with fail
          refine HCJ.out.mono ?_
          rintro e w2 ⟨rfl, hk2, hg2⟩
          have q2' := Q1.out.at_ (hg2 g rfl)
          have ci := q2'.ib.cell (k := i) (by have := Q2.out; omega)
          have f1 := q2'.ib.frozen
          have HD2 : Hid (DlAt (w2.setCell ⟨g, i, none⟩ (.int .i64 x)) g c n cs q K (i + 1) (j + 1)) := by
            have hkp : keptI q cs (j + 1) = keptI q cs j ++ [x] := by
              show keptI q cs j ++ _ = _
              rw [HQJ.out, HX.out]; simp
            have hil : i < cur.length := by have := Q2.out; omega
            refine ⟨⟨cur.set i x, q2'.set_ hil x, by rw [List.length_set]; exact Q2.out, ?_, fun k hk => ?_⟩, HS.out g rfl _ _ _ _ hk2, by omega, hlt, ?_⟩
            · rw [hkp, take_step (by rw [List.length_set]; exact hil), List.take_set_of_le (Nat.le_refl _), Q3.out]
              congr 1
              unfold ig
              rw [List.getD_eq_getElem?_getD, List.getElem?_set_self hil]
              rfl
            · rw [ig_set_ne (by omega)]
              exact Q4.out k (by omega)
            · rw [hkp, List.length_append, List.length_singleton, ← HD.out.il]
          clear hk2 hg2 q2'
          go_wp2_with fail
          go_roundw
          case rel => exact ⟨i + 1, j + 1, by omega, by omega, by go_num, by go_num, HD2⟩
          case measure => simp [intOf]; omega
      · obtain rfl : j = n := by omega
        obtain ⟨cur, q1, q2, q3, q4⟩ := HD.out.row
        have hij := HD.out.ij
        obtain ⟨p1, p2, p3⟩ := HP.out
        have hfr := run_from (P := Try.prog) Try.underlying23 elemI (some ⟨g, 0, none⟩) j c i (by omega)
        have hsA : subA (some ⟨g, 0, none⟩) i c = some ⟨g, i, none⟩ := by
          unfold subA
          rw [if_neg (by omega)]
          simp [Addr.add]
          omega
        rw [hsA] at hfr
        have hcl := clear_ints (P := Try.prog) wr 23 3 0 (.int .i64 0) Try.underlying23 (by
          have h : (Try.prog.info? 3).map (fun i => (i.zero, i.size)) = some (some (.int .i64 0), 1) := by kernel_rfl
          exact (zero_of_info h).1) rfl g i (j - i) (c - i) (by omega) (fun k hk => by rw [q1.ib.cell (by omega)]; rfl) (fun k _ => q1.ib.frozen _)
        have hhi := run_hi (P := Try.prog) Try.underlying23 elemI (some ⟨g, 0, none⟩) j c i (by omega)
        obtain ⟨cs', r1, r2, r3⟩ := IBc.zeros (j - i) i q1 (by omega)
        have HF : Hid (OwnI (wr.setCells g i (List.replicate (j - i) (.int .i64 0))) B (some ⟨g, 0, none⟩) i c (keptI q cs j)) := by
          have := OwnI.of_row (n := i) r1 p1 (by omega) p3
          rw [r3, q3] at this
          exact this
        have HKF : Hid (K j (wr.setCells g i (List.replicate (j - i) (.int .i64 0)))) := stab_cells (HS.out g rfl j) _ _ _ HD.out.k
        clear q1 q2 q3 q4 r1 r2 r3 hsA HD HS HC p1 p3
        go_wp2_with fail
        go_ret
        exact ⟨i, rfl, HF.out, HKF.out⟩
end Go.Proofs.Ytckclflbcgblaaa
