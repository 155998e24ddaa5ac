/- What may be used again: clear, DeleteFunc. -/
import Derived.Test.YtgcoecibhonfnaaEpI
namespace Go.Proofs.Ytgcoecibhonfnaa
open Go.RowKit
/-- 'clear(s)', s a slice of n > 0 pairs. -/
theorem clear_pairs {P : Program} (w : World) (t e ty : TypeId) (z : Value) (ht : P.underlying t = some (.slice e)) (hv : ∀ w, (zeroValue e).run P w = .ok z w) (hz : z.cells = #[.int .i64 0, .int .i64 0]) (b o n c : Nat) (hn : 0 < n)
    (hc : ∀ j, j < n * 2 → (w.cell? ⟨b, o + j, none⟩).isSome = true) (hf : ∀ j, j < n * 2 → w.frozen? ⟨b, o + j, none⟩ = false) :
    (Builtin.clear_ #[t] ty #[.slice (some ⟨b, o, none⟩) n c]).run P w = .ok (.tuple #[]) (w.setCells b o (List.replicate (n * 2) (.int .i64 0))) := by
  have hzc : (Builtin.zeroCells z.cells n).toList = List.replicate (n * 2) (.int .i64 0) := by
    rw [hz]
    simp [Builtin.zeroCells]
    apply List.ext_getElem
    · simp
    · intro i h1 h2
      have : i % 2 = 0 ∨ i % 2 = 1 := by omega
      rcases this with q | q <;> simp [q]
  have hst := run_storeCells_cells (P := P) b o (List.replicate (n * 2) (.int .i64 0)) 0 w (by simpa using hc) (by simpa using hf) (by intro v hv'; rw [List.eq_of_mem_replicate hv']; rfl)
  simp only [Nat.add_zero] at hst
  obtain ⟨m, rfl⟩ : ∃ m, n = m + 1 := ⟨n - 1, by omega⟩
  simp [Builtin.clear_, run_underlying ht, hv, hzc, hst]
theorem take2 {fl : List Int} {k : Nat} (hk : k * 2 + 1 < fl.length) : fl.take ((k + 1) * 2) = fl.take (k * 2) ++ [ig fl (k * 2), ig fl (k * 2 + 1)] := by
  rw [show (k + 1) * 2 = k * 2 + 1 + 1 by omega, take_step hk, take_step (by omega), List.append_assoc]; rfl
theorem keptN_take {fl : List Int} {e : Int} : ∀ {i : Nat}, (∀ k, k < i → ripe fl e k = false) → i * 2 ≤ fl.length → keptN fl e i = fl.take (i * 2)
  | 0, _, _ => by simp [keptN]
  | i + 1, h, hl => by
    rw [keptN_succ, keptN_take (fun k hk => h k (by omega)) (by omega), h i (by omega), take2 (by omega)]; rfl
theorem outN_nil {fl : List Int} {e : Int} : ∀ {i : Nat}, (∀ k, k < i → ripe fl e k = false) → outN fl e i = []
  | 0, _ => by simp [outN]
  | i + 1, h => by rw [outN_succ, outN_nil (fun k hk => h k (by omega)), h i (by omega)]; rfl
theorem outN_len (fl : List Int) (e : Int) : ∀ k, (outN fl e k).length ≤ k
  | 0 => by simp [outN]
  | k + 1 => by
    have := outN_len fl e k
    rw [outN_succ, List.length_append]
    cases ripe fl e k <;> simp <;> omega
/-- What DeleteFunc touches with the closure of Free. -/
def delS (base bo g : Nat) (k : Nat) : Prop := outS base bo k ∨ k = g
theorem Tch.setCells {S : Nat → Prop} {a : World} {g : Nat} (hg : S g) : ∀ (vs : List Value) (o : Nat) {b : World}, Tch S a b → Tch S a (b.setCells g o vs)
  | [], _, _, h => h
  | v :: vs, o, _, h => Tch.setCells hg vs (o + 1) (h.setCell hg o v)
theorem heap_setCells {g : Nat} : ∀ (vs : List Value) (o : Nat) (b : World) (k : Nat), k ≠ g → (b.setCells g o vs).heap[k]? = b.heap[k]?
  | [], _, _, _, _ => rfl
  | v :: vs, o, b, k, hk => (heap_setCells vs (o + 1) (b.setCell ⟨g, o, none⟩ v) k hk).trans (Below.heap_setCell b ⟨g, o, none⟩ v k hk)
theorem RW.setZ {g t D : Nat} : ∀ (n o : Nat) {w : World} {cs : List Int}, RW w g t D cs → o + n ≤ cs.length → ∃ cs', RW (w.setCells g o (List.replicate n (.int .i64 0))) g t D cs' ∧ cs'.length = cs.length ∧ cs'.take o = cs.take o
  | 0, _, _, cs, h, _ => ⟨cs, h, rfl, rfl⟩
  | n + 1, o, w, cs, h, hl => by
    obtain ⟨cs', h1, h2, h3⟩ := RW.setZ n (o + 1) (h.set_ (k := o) (by omega) 0) (by simp; omega)
    refine ⟨cs', h1, by simpa using h2, ?_⟩
    have h4 : (cs'.take (o + 1)).take o = ((cs.set o 0).take (o + 1)).take o := by rw [h3]
    rw [List.take_take, List.take_take, Nat.min_eq_left (by omega)] at h4
    rw [h4, List.take_set_of_le (by omega)]
theorem ref_zero : ∃ z, (∀ w, (zeroValue 49).run Try.prog w = .ok z w) ∧ z.cells = #[.int .i64 0, .int .i64 0] := by
  have h : (Try.prog.info? 49).map (fun i => i.zero.map Value.cells) = some (some #[.int .i64 0, .int .i64 0]) := by kernel_rfl
  obtain ⟨i, hi, hz⟩ := Option.map_eq_some_iff.1 h
  obtain ⟨z, hz1, hz2⟩ := Option.map_eq_some_iff.1 hz
  refine ⟨z, fun w => ?_, hz2⟩
  simp [zeroValue, typeInfo, hi, hz1]
/-- A clock's row, and what Free's closure reads and writes, in the midst of DeleteFunc. -/
structure DelAt (wx w : World) (base bo g D : Nat) (fl : List Int) (e : Int) (m : Nat) (i j : Nat) : Prop where
  row : ∃ cur, RW wx g 49 D cur ∧ cur.length = m * 2 ∧ cur.take (i * 2) = keptN fl e j ∧ ∀ k, j * 2 ≤ k → ig cur k = ig fl k
  out : OutAt wx base bo (outN fl e j)
  tch : Tch (delS base bo g) w wx
  ij : i < j
  jm : j ≤ m
set_option maxRecDepth 100000 in
set_option maxHeartbeats 1000000 in
theorem del_free (g m d b c bo base : Nat) (fl : List Int) (e : Int) (w : World)
    (hr : RW w g 49 (d * 2) fl) (hfl : fl.length = m * 2) (hm : m ≤ 1048576) (hmd : m ≤ d) (hd : d ≤ maxLen) (he0 : 0 ≤ e) (he1 : e ≤ 4611686018427387904)
    (hc : ∀ wx, Tch (delS base bo g) w wx → wx.cell? ⟨b, 0, none⟩ = some (.pointer (some ⟨c, 0, none⟩)))
    (he : ∀ wx, Tch (delS base bo g) w wx → wx.cell? ⟨c, 0, none⟩ = some (.int .i64 e))
    (ho : OutAt w base bo []) (hbo : bo < base) (hbw : base ≤ w.heap.size) (hg : g < base) (hgo : g ≠ bo) :
    Calls Try.prog 22 #[.slice (some ⟨g, 0, none⟩) m d, .func (.func 23) #[] #[.pointer (some ⟨b, 0, none⟩), .pointer (some ⟨bo, 0, none⟩)]] w
      fun en w' => ∃ i : Nat, i ≤ m ∧ en = .returned (.slice (some ⟨g, 0, none⟩) i d) ∧ (∃ cur, RW w' g 49 (d * 2) cur ∧ i * 2 ≤ cur.length ∧ cur.take (i * 2) = keptN fl e m) ∧ OutAt w' base bo (outN fl e m) ∧ Tch (delS base bo g) w w' := by
  have hi : Hid (Calls Try.prog 27 #[.slice (some ⟨g, 0, none⟩) m d, .func (.func 23) #[] #[.pointer (some ⟨b, 0, none⟩), .pointer (some ⟨bo, 0, none⟩)]] w
      fun en w' => ∃ r : Int, en = .returned (.int .i64 r) ∧ FreeIdx fl e m [] base bo r w' ∧ Tch (outS base bo) w w') := by
    have hsub : ∀ wx, Tch (outS base bo) w wx → Tch (delS base bo g) w wx := fun wx h => ⟨h.os, h.tape, h.output, h.size, fun k hk hn => h.block k hk fun q => hn (Or.inl q)⟩
    refine idx_free _ m d b c bo base fl e [] w (fun wx h => ?_) hm he0 he1 (fun wx h => hc wx (hsub wx h)) (fun wx h => he wx (hsub wx h)) ho hbo hbw (by simp)
    have hrx : RW wx g 49 (d * 2) fl := hr.at_ (h.block g hr.ib.lt (by unfold outS; omega))
    exact ⟨hfl, fun _ => ⟨g, 0, rfl, hrx.ib.lt, fun k hk => by rw [Nat.zero_add]; exact hrx.ib.cell (by omega)⟩⟩
  have HR := Lib.hid hr
  have HC := Lib.hid hc
  have HE := Lib.hid he
  have HFL := Lib.hid hfl
  have HS : Hid (bo < base ∧ base ≤ w.heap.size ∧ g < base ∧ g ≠ bo ∧ m ≤ d ∧ d ≤ maxLen ∧ 0 ≤ e ∧ e ≤ 4611686018427387904) := ⟨hbo, hbw, hg, hgo, hmd, hd, he0, he1⟩
  clear hr hc he hfl hbo hbw hg hgo hd he0 he1 ho
  go_enter Try.func22, Try.ntmps22
  go_wp2_with fail
  refine hi.out.mono ?_
  rintro en w1 ⟨r, rfl, hf, ht⟩
  have HT : Hid (Tch (delS base bo g) w w1) := ⟨ht.os, ht.tape, ht.output, ht.size, fun k hk hn => ht.block k hk fun q => hn (Or.inl q)⟩
  have hrow : Hid (RW w1 g 49 (d * 2) fl) := HR.out.at_ (ht.block g HR.out.ib.lt (by have := HS.out; unfold outS; omega))
  rcases hf with ⟨rfl, h1, h2⟩ | ⟨i, him, rfl, h1, h2, h3⟩
  · have H1 := Lib.hid h1
    have H2 := Lib.hid h2
    clear h1 h2 ht hi
    go_wp2_with fail
    go_ret
    refine ⟨m, Nat.le_refl _, rfl, ⟨fl, hrow.out, Nat.le_of_eq HFL.out.symm, ?_⟩, ?_, HT.out⟩
    · rw [keptN_take H1.out (Nat.le_of_eq HFL.out.symm)]
    · rw [outN_nil H1.out]; exact H2.out
  · have HD : Hid (DelAt w1 w base bo g (d * 2) fl e m i (i + 1)) := by
      refine ⟨⟨fl, hrow.out, HFL.out, ?_, fun _ _ => rfl⟩, ?_, HT.out, Nat.lt_succ_self _, him⟩
      · rw [keptN_succ, h2, keptN_take h1 (by have := HFL.out; omega)]; simp
      · rw [outN_succ, h2, outN_nil h1]; exact h3
    have hne : ((i : Int) == -1) = false := beq_false_of_ne (by omega)
    clear h1 h2 h3 ht hi
    go_wp2_with fail
    go_loopw [5, 6] (fun u v wx => ∃ i j : Nat, i ≤ m ∧ j ≤ m ∧ u = .int .i64 i ∧ v = .int .i64 j ∧ Hid (DelAt wx w base bo g (d * 2) fl e m i j)) (fun _ v _ => m - (intOf v).toNat)
    case atStart => exact ⟨i, i + 1, Nat.le_of_lt him, him, rfl, by go_num, HD⟩
    case round =>
      clear HD hrow HT
      obtain ⟨v, j, hvm, hjm, rfl, rfl, HD⟩ := hrel
      by_cases hlt : j < m
      · obtain ⟨cur, q1, q2, q3, q4⟩ := HD.out.row
        have hbox : ∀ o, Below wr.heap.size wr (wr.alloc o) := fun o => (Below.refl _ _).alloc (Nat.le_refl _) o
        have c1 := q1.ib.cell (k := j * 2) (by omega)
        have c2 := q1.ib.cell (k := j * 2 + 1) (by omega)
        rw [q4 _ (by omega)] at c1 c2
        obtain ⟨x, hx⟩ : ∃ x, ig fl (j * 2) = x := ⟨_, rfl⟩
        obtain ⟨y, hy⟩ : ∃ y, ig fl (j * 2 + 1) = y := ⟨_, rfl⟩
        rw [hx] at c1
        rw [hy] at c2
        have Q1 := Lib.hid q1
        have Q2 := Lib.hid q2
        have Q3 := Lib.hid q3
        have Q4 := Lib.hid q4
        clear q1 q2 q3 q4
        obtain ⟨s1, s2, s3, s4, s5, s6, s7, s8⟩ := HS.out
        have hvj := HD.out.ij
        have htx := HD.out.tch.alloc (.cells #[.int .i64 x, .int .i64 y] 49)
        have hox := HD.out.out.below (hbox (.cells #[.int .i64 x, .int .i64 y] 49))
        have hol : (outN fl e j).length ≤ 1048576 := by have := outN_len fl e j; omega
        have hbx : base ≤ (wr.alloc (.cells #[.int .i64 x, .int .i64 y] 49)).heap.size := Nat.le_trans s2 htx.size
        have hrx : RW (wr.alloc (.cells #[.int .i64 x, .int .i64 y] 49)) g 49 (d * 2) cur := Q1.out.at_ ((hbox _).block g Q1.out.ib.lt)
        have hrp : ripe fl e j = decide (y ≤ e - 2) := by unfold ripe; rw [hy]
        have hbv : ∀ k, (wr.alloc (.cells #[.int .i64 x, .int .i64 y] 49)).cell? ⟨wr.heap.size, k, none⟩ = #[Value.int .i64 x, .int .i64 y][k]? := fun k => (Blk.new wr 49 #[.int .i64 x, .int .i64 y]).cell k
        cases hq : decide (y ≤ e - 2) with
        | true =>
          rw [hq] at hrp
          have HK := Lib.hid (free_cl_yes x y e b c bo base (outN fl e j) _ (HC.out _ htx) (HE.out _ htx) s7 s8 hq hox s1 hbx hol)
          have HN : Hid (keptN fl e (j + 1) = keptN fl e j ∧ outN fl e (j + 1) = outN fl e j ++ [x]) := ⟨by rw [keptN_succ, hrp]; simp, by rw [outN_succ, hrp, hx]; rfl⟩
          have HTX := Lib.hid htx
          have HRX := Lib.hid hrx
          clear hrp hq hx hy htx hox hol hbx hrx hbv s1 s2 s3 s4 s5 s6 s7 s8
          go_wp2_with fail
          refine HK.out.mono ?_
          rintro en w' ⟨rfl, ho', ht'⟩
          have HO' := Lib.hid ho'
          have HT' := Lib.hid ht'
          clear ho' ht'
          go_wp2_with fail
          go_roundw
          case rel =>
            refine ⟨v, j + 1, hvm, hlt, rfl, by go_num, ⟨⟨cur, HRX.out.at_ (HT'.out.block g HRX.out.ib.lt ?_), Q2.out, ?_, fun k hk => Q4.out k (by omega)⟩, ?_, HTX.out.trans HT'.out fun _ h => Or.inl (Or.inl h), by omega, hlt⟩⟩
            · have := HS.out; unfold outS; omega
            · rw [HN.out.1]; exact Q3.out
            · rw [HN.out.2]; exact HO'.out
          case measure => simp [intOf]; omega
        | false =>
          rw [hq] at hrp
          have HK := Lib.hid (free_cl_no x y e b c bo _ (HC.out _ htx) (HE.out _ htx) s7 s8 hq)
          have HN : Hid (keptN fl e (j + 1) = keptN fl e j ++ [x, y] ∧ outN fl e (j + 1) = outN fl e j) := ⟨by rw [keptN_succ, hrp, hx, hy]; rfl, by rw [outN_succ, hrp]; simp⟩
          have HTX := Lib.hid htx
          have HRX := Lib.hid hrx
          have HOX := Lib.hid hox
          have HBV := Lib.hid hbv
          clear hrp hq hx hy htx hox hol hbx hrx hbv s1 s2 s3 s4 s5 s6 s7 s8
          go_wp2_with fail
          refine HK.out.mono ?_
          rintro en w' ⟨rfl, hb'⟩
          have HB' := Lib.hid hb'
          have hr' : RW w' g 49 (d * 2) cur := HRX.out.at_ (hb'.block g HRX.out.ib.lt)
          have hl1 : v * 2 < cur.length := by have := Q2.out; omega
          have hl2 : v * 2 + 1 < cur.length := by have := Q2.out; omega
          have k0 : w'.cell? ⟨wr.heap.size, 0, none⟩ = some (.int .i64 x) := (hb'.cell (World.block_lt_of_cell? _ _ (HBV.out 0))).trans (HBV.out 0)
          have k1 : w'.cell? ⟨wr.heap.size, 1, none⟩ = some (.int .i64 y) := (hb'.cell (World.block_lt_of_cell? _ _ (HBV.out 1))).trans (HBV.out 1)
          have g0 := hr'.ib.cell hl1
          have g0' := hr'.ib.frozen (v * 2)
          have hr1 := hr'.set_ hl1 x
          have g1 := hr1.ib.cell (k := v * 2 + 1) (by simpa using hl2)
          have g1' := hr1.ib.frozen (v * 2 + 1)
          have HR2 := Lib.hid (hr1.set_ (k := v * 2 + 1) (by simpa using hl2) y)
          clear hb' hr' hr1 hl1 hl2
          go_wp2_with fail
          go_roundw
          case rel =>
            refine ⟨v + 1, j + 1, by omega, hlt, by go_num, by go_num, ⟨⟨_, HR2.out, by simpa using Q2.out, ?_, fun k hk => ?_⟩, ?_, ?_, by omega, hlt⟩⟩
            · have hl : (cur.set (v * 2) x).length = cur.length := by simp
              have hq := Q2.out
              rw [take2 (by simp; omega), HN.out.1, List.take_set_of_le (by omega), List.take_set_of_le (by omega), Q3.out]
              congr 1
              have u1 : v * 2 < cur.length := by omega
              have u2 : v * 2 + 1 < cur.length := by omega
              simp [ig, List.getD_eq_getElem?_getD, u1, u2]
            · rw [← Q4.out k (by omega)]
              simp only [ig, List.getD_eq_getElem?_getD, List.getElem?_set]
              rw [if_neg (by omega), if_neg (by omega)]
            · rw [HN.out.2]
              have hs := HS.out
              exact ((HOX.out.below HB'.out).keep fun k hk _ => (Below.heap_setCell _ _ _ k (by show k ≠ g; omega)).trans (Below.heap_setCell _ _ _ k (by show k ≠ g; omega)))
            · exact ((HTX.out.trans (Tch.of_below HB'.out : Tch (delS base bo g) _ _) fun _ h => Or.inl h).setCell (Or.inr rfl) _ _).setCell (Or.inr rfl) _ _
          case measure => simp [intOf]; omega
      · obtain rfl : j = m := by omega
        obtain ⟨cur, q1, q2, q3, q4⟩ := HD.out.row
        obtain ⟨s1, s2, s3, s4, s5, s6, s7, s8⟩ := HS.out
        have hvj := HD.out.ij
        have hvd : v < d := by omega
        have hvd' : ¬ d = v := by omega
        obtain ⟨z, hz1, hz2⟩ := ref_zero
        have hclr := clear_pairs (P := Try.prog) wr 35 49 0 z Try.underlying35 hz1 hz2 g (v * 2) (j - v) (d - v) (by omega)
          (fun k hk => by rw [q1.ib.cell (by omega)]; rfl) (fun k hk => q1.ib.frozen _)
        obtain ⟨cs', r1, r2, r3⟩ := RW.setZ ((j - v) * 2) (v * 2) q1 (by omega)
        have HG : Hid (∃ cur, RW (wr.setCells g (v * 2) (List.replicate ((j - v) * 2) (.int .i64 0))) g 49 (d * 2) cur ∧ v * 2 ≤ cur.length ∧ cur.take (v * 2) = keptN fl e j) := ⟨cs', r1, by omega, r3.trans q3⟩
        have HO : Hid (OutAt (wr.setCells g (v * 2) (List.replicate ((j - v) * 2) (.int .i64 0))) base bo (outN fl e j)) := HD.out.out.keep fun k hk _ => heap_setCells _ _ _ k (by rcases hk with rfl | hk <;> omega)
        have HX : Hid (Tch (delS base bo g) w (wr.setCells g (v * 2) (List.replicate ((j - v) * 2) (.int .i64 0)))) := Tch.setCells (Or.inr rfl) _ _ HD.out.tch
        clear q1 q2 q3 q4 r1 r2 r3 s1 s2 s3 s4 s5 s6 s7 s8 hz1 hz2
        go_wp2_with fail
        go_ret
        exact ⟨v, hvm, rfl, HG.out, HO.out, HX.out⟩
end Go.Proofs.Ytgcoecibhonfnaa
