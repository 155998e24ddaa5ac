/- choose.sorted: the walk. -/
import Derived.Test.YtpcbfoddlpgdjaaApA
import Derived.Test.YtpcbfoddlpgdjaaHpS
namespace Go.Proofs.Ytpcbfoddlpgdjaa
open Go.RowKit
def cd0 : Cd := ⟨⟨0, 0, 0⟩, ⟨none, 0, 0, []⟩⟩
theorem make_cdS (n : Nat) (hn : n ≤ 1048576) (w : World) : (Instr.makeSlice 71 (.int .i64 (n : Int)) (.int .i64 (n : Int))).run Try.prog w = .ok (.slice (some ⟨w.heap.size, 0, none⟩) n n) (w.alloc (.cells (madeCells cd0.cells (n * 4)) 90)) := by
  obtain ⟨i, hi, hz, hz1, hz2⟩ := info_parts info_cdS
  have := run_make (P := Try.prog) w 71 90 i _ Try.underlying71 hi hz .i64 .i64 n n (by omega) (by omega) (by rw [hz2]; omega) (by omega)
  rw [hz1] at this
  simp only [Value.cells, Int.toNat_natCast] at this
  exact this
theorem made_cd {w : World} {n : Nat} : HdC (w.alloc (.cells (madeCells cd0.cells (n * 4)) 90)) w.heap.size n (fun _ => cd0) := by
  refine ⟨_, Blk.new _ _ _, size_madeCells _ _, fun i hi j u hu => ?_⟩
  have hj : j < 4 := (List.getElem?_eq_some_iff.1 hu).1
  unfold madeCells
  rw [Array.getElem?_map, Array.getElem?_eq_getElem (by simp; omega)]
  rw [Array.getElem?_toList] at hu
  have e : (i * 4 + j) % 4 = j := by omega
  show some (cd0.cells[((Array.range (n * 4))[i * 4 + j]'(by simp; omega)) % 4]!) = some u
  rw [Array.getElem_range, e]
  rcases (by omega : j = 0 ∨ j = 1 ∨ j = 2 ∨ j = 3) with rfl | rfl | rfl | rfl <;> exact hu
section
variable {w : World} {g n k : Nat} {f : Nat → Cd}
theorem HdC.setSp (x : Sp) (h : HdC w g n f) (hk : k < n) : HdC (w.setCells g (k * 4) (spC x).toList) g n (updC f k ⟨x, (f k).vec⟩) := by
  obtain ⟨C, h1, h2, h3⟩ := h
  obtain ⟨C', e1, e2, e3⟩ := Blk.setCells (spC x).toList (k * 4) w C h1
  refine ⟨C', e1, by rw [e2, h2], fun i hi j u hu => ?_⟩
  have hj : j < 4 := (List.getElem?_eq_some_iff.1 hu).1
  rw [e3]
  unfold updC at hu
  by_cases e : i = k
  · subst e
    rw [if_pos rfl] at hu
    by_cases h4 : j < 3
    · rw [if_pos ⟨by omega, by show _ < _ + 3; omega, by rw [h2]; omega⟩, show i * 4 + j - i * 4 = j by omega, ← hu]
      rcases (by omega : j = 0 ∨ j = 1 ∨ j = 2) with rfl | rfl | rfl <;> rfl
    · rw [if_neg (by show ¬ (_ ∧ _ < _ + 3 ∧ _); omega)]
      refine h3 i hi j u ?_
      obtain rfl : j = 3 := by omega
      exact hu
  · rw [if_neg e] at hu
    rw [if_neg (by show ¬ (_ ∧ _ < _ + 3 ∧ _); omega)]
    exact h3 i hi j u hu
theorem HdC.setVec (v : IS) (h : HdC w g n f) (hk : k < n) : HdC (w.setCell ⟨g, k * 4 + 3, none⟩ v.v) g n (updC f k ⟨(f k).sp, v⟩) := by
  obtain ⟨C, h1, h2, h3⟩ := h
  refine ⟨_, h1.set_ (k * 4 + 3) v.v, by simp [h2], fun i hi j u hu => ?_⟩
  have hj : j < 4 := (List.getElem?_eq_some_iff.1 hu).1
  rw [Array.getElem?_setIfInBounds]
  unfold updC at hu
  by_cases e : i = k
  · subst e
    rw [if_pos rfl] at hu
    by_cases h4 : j < 3
    · rw [if_neg (by omega)]
      refine h3 i hi j u ?_
      rw [← hu]
      rcases (by omega : j = 0 ∨ j = 1 ∨ j = 2) with rfl | rfl | rfl <;> rfl
    · obtain rfl : j = 3 := by omega
      rw [if_pos rfl, if_pos (by rw [h2]; omega), ← hu]; rfl
  · rw [if_neg e] at hu
    rw [if_neg (by omega)]
    exact h3 i hi j u hu
theorem HdC.storeSp (x : Sp) (h : HdC w g n f) (hk : k < n) : (Instr.storeAt 35 (.pointer (some ⟨g, k * 4, none⟩)) (.agg (spC x))).run Try.prog w = .ok () (w.setCells g (k * 4) (spC x).toList) := by
  obtain ⟨C, h1, h2, h3⟩ := h
  exact row_store_mid h1 (k * 4) (spC x) (by rw [h2]; show k * 4 + 3 ≤ _; omega) spotTK (by simp [spC, Value.oneCell'])
theorem HdC.storeVec (v : IS) (h : HdC w g n f) (hk : k < n) : (Instr.storeAt 22 (.pointer (some ⟨g, k * 4 + 3, none⟩)) v.v).run Try.prog w = .ok () (w.setCell ⟨g, k * 4 + 3, none⟩ v.v) := by
  obtain ⟨C, h1, h2, h3⟩ := h
  have hc : w.cell? ⟨g, k * 4 + 3, none⟩ = some (f k).vec.v := by rw [h1.cell]; exact h3 k hk 3 _ rfl
  have hf := h1.frozen (k * 4 + 3)
  unfold IS.v at hc ⊢
  simp [go_sem, hc, hf]
end
/-- The candidates as they are at first. -/
def cdF (L : List Sp) (its : List ItX) (i : Nat) : Cd := ⟨sg L i, ((its.map ItX.vec).getD i ⟨none, 0, 0, []⟩)⟩
theorem cdF_at {L : List Sp} {its : List ItX} {k : Nat} {d : ItX} (hd : its[k]? = some d) : cdF L its k = ⟨sg L k, d.vec⟩ := by
  unfold cdF
  rw [List.getD_eq_getElem?_getD, List.getElem?_map, hd]; rfl
def cdU (L : List Sp) (its : List ItX) (k : Nat) : Nat → Cd := fun i => if i < k then cdF L its i else cd0
theorem cdU_succ (L : List Sp) (its : List ItX) (k : Nat) : updC (cdU L its k) k (cdF L its k) = cdU L its (k + 1) := by
  funext i
  unfold updC cdU
  by_cases e : i = k
  · subst e; rw [if_pos rfl, if_pos (by omega)]
  · rw [if_neg e]
    by_cases h : i < k
    · rw [if_pos h, if_pos (by omega)]
    · rw [if_neg h, if_neg (by omega)]
theorem upd_upd (f : Nat → Cd) (k : Nat) (x : Sp) (v : IS) : updC (updC f k ⟨x, (f k).vec⟩) k ⟨(updC f k ⟨x, (f k).vec⟩ k).sp, v⟩ = updC f k ⟨x, v⟩ := by
  funext i
  unfold updC
  by_cases e : i = k
  · subst e; simp
  · simp [e]
/-- Candidates in order. -/
def RetC (n : Nat) (f0 : Nat → Cd) (w : World) (e : Ending) (w' : World) : Prop := ∃ h f', e = .returned (.slice (some ⟨h, 0, none⟩) n n) ∧ HdC w' h n f' ∧ (asL f' n).Perm (asL f0 n) ∧ Srt (leC ltC) f' 0 n ∧ w.heap.size ≤ h ∧ Below w.heap.size w w'
set_option maxRecDepth 100000 in
set_option maxHeartbeats 8000000 in
theorem ch_sortedS (A : Option Addr) (n c : Nat) (L : List Sp) (A2 : Option Addr) (c2 : Nat) (its : List ItX) (w : World) (hs : SpAt w w.heap.size A n L) (hI : Its w w.heap.size A2 n its) (hn : n ≤ 40) :
    Calls Try.prog 57 #[.slice A n c, .slice A2 n c2] w (RetC n (cdF L its) w) := by
  have HS := Lib.hid hs
  have HI := Lib.hid hI
  have HL : Hid (L.length = n) := hs.len
  have HSO := Lib.hid (fun (f : Nat → Cd) (W : World) (h : HdC W w.heap.size n f) => sy_sort ltC cmpOk w.heap.size n f W h hn)
  have hm := make_cdS n (by omega) w
  obtain ⟨w1, hw1⟩ : ∃ x, w.alloc (.cells (madeCells cd0.cells (n * 4)) 90) = x := ⟨_, rfl⟩
  have B1 : Hid (Below w.heap.size w w1) := by show Below _ _ _; rw [← hw1]; exact bel_box _ _
  have K1 : Hid (HdC w1 w.heap.size n (cdU L its 0)) := by
    show HdC _ _ _ _
    rw [← hw1]
    exact made_cd
  rw [hw1] at hm
  unfold fvC at HSO
  clear hs hI hw1
  go_enter Try.func57, Try.ntmps57
  go_upto_region 2 with fail
  clear hm
  go_wp2_with fail
  go_loopw [6, 7, 13] (fun _ _ s13 wr => ∃ k : Nat, k ≤ n ∧ s13 = .int .i64 k ∧ Hid (HdC wr w.heap.size n (cdU L its k)) ∧ Hid (Below w.heap.size w wr)) (fun _ _ s13 _ => n - (intOf s13).toNat)
  case atStart => exact ⟨0, Nat.zero_le _, rfl, K1, B1⟩
  case round =>
    clear K1 B1
    obtain ⟨k, hk, rfl, HK, HB⟩ := hrel
    by_cases hlt : k < n
    · have hsp := HS.out.below HB.out
      obtain ⟨b, o, _, rfl, hb, _⟩ := Rs.at_ hsp hlt
      have LI := hsp.load hlt
      obtain ⟨x, hsx⟩ : ∃ x, sg L k = x := ⟨_, rfl⟩
      rw [hsx] at LI
      obtain ⟨ib, io, d, rfl, hib, hd, hv, hr⟩ := (HI.out.below HB.out).at_ hlt
      obtain ⟨xb, hxb⟩ : ∃ xb, wr.heap.size = xb := ⟨_, rfl⟩
      obtain ⟨W4, hW4⟩ : ∃ W4, (wr.alloc (.cells #[.int .u64 0, .int .u64 0, .int .i64 0] 35)).setCells wr.heap.size 0 (spC x).toList = W4 := ⟨_, rfl⟩
      have SI := spB_put wr x
      have bx := spB_blk wr x
      have b4 := put_bel wr (.cells #[.int .u64 0, .int .u64 0, .int .i64 0] 35) (spC x).toList
      rw [hW4] at SI bx b4
      rw [hxb] at SI bx
      have LB := spB_load bx
      have HB4 : Hid (Below w.heap.size w W4) := HB.out.trans (b4.mono HB.out.size)
      have HK4 := HK.out.bel b4
      have SO := HK4.storeSp x hlt
      have K5 := HK4.setSp x hlt
      have B5 : Below w.heap.size w (W4.setCells w.heap.size (k * 4) (spC x).toList) := (Tch.setCells (S := fun q => q = w.heap.size) rfl (spC x).toList (k * 4) W4 (Tch.of_below HB4.out : Tch _ w W4)).below (Nat.le_refl _) (fun q e => Nat.le_of_eq e.symm)
      obtain ⟨V, hV⟩ : ∃ V, W4.setCells w.heap.size (k * 4) (spC x).toList = V := ⟨_, rfl⟩
      rw [hV] at SO K5 B5
      have LV := load_i32sK ((B5.cell (p := ⟨ib, io + k * 3 + 1, none⟩) hib).trans ((HB.out.cell (p := ⟨ib, io + k * 3 + 1, none⟩) hib).symm.trans (hr 1 _ rfl)))
      have SV := K5.storeVec d.vec hlt
      have K6 := K5.setVec d.vec hlt
      rw [upd_upd] at K6
      have ecd : (⟨x, d.vec⟩ : Cd) = cdF L its k := by rw [cdF_at hd, hsx]
      rw [ecd, cdU_succ] at K6
      have HK6 := Lib.hid K6
      have HB6 : Hid (Below w.heap.size w (V.setCell ⟨w.heap.size, k * 4 + 3, none⟩ d.vec.v)) := B5.setCell (p := ⟨w.heap.size, k * 4 + 3, none⟩) (Nat.le_refl _) _
      obtain ⟨W6, hW6⟩ : ∃ q, V.setCell ⟨w.heap.size, k * 4 + 3, none⟩ d.vec.v = q := ⟨_, rfl⟩
      rw [hW6] at SV HK6 HB6
      have HXB := Lib.hid hxb
      clear hsp hsx hd hv hr hib hb b4 bx hW4 HK4 K5 B5 hV K6 ecd hW6 HB4
      unfold spV at LI
      unfold spC at SI LB SO
      unfold IS.v at LV SV
      go_wp2_with (first
        | refine wpList_loadE LI _ rfl rfl rfl ?_
        | refine wpList_loadE LB _ rfl rfl rfl ?_
        | refine wpList_loadE LV _ rfl rfl rfl ?_
        | refine wpList_storeE SI _ _ rfl rfl rfl rfl ?_
        | refine wpList_storeE SO _ _ rfl rfl rfl rfl ?_
        | refine wpList_storeE SV _ _ rfl rfl rfl rfl ?_)
      clear LI LB LV SI SO SV
      go_roundw
      case rel => exact ⟨k + 1, by omega, by go_num, HK6, HB6⟩
      case measure => simp [intOf]; omega
    · obtain rfl : k = n := by omega
      have HP : Hid (∀ f : Nat → Cd, (asL f k).Perm (asL (cdU L its k) k) → (asL f k).Perm (asL (cdF L its) k)) := fun f h => by
        have e : asL (cdU L its k) k = asL (cdF L its) k := List.map_congr_left fun i hi => by
          unfold cdU
          rw [if_pos (List.mem_range.1 hi)]
        rw [e] at h; exact h
      have HSC := Lib.hid (HSO.out _ wr HK.out)
      go_wp2_with (go_at_call 62; (with_reducible refine HSC.out.mono ?_); rintro e w2 ⟨rfl, f', k1, k2, k3, k4, k5⟩; have HF : Hid (RetC k (cdF L its) w (.returned (.slice (some ⟨w.heap.size, 0, none⟩) k k)) w2) := ⟨w.heap.size, f', rfl, k1, HP.out _ k3, k4, Nat.le_refl _, HB.out.trans (k5.below HB.out.size (fun q e => Nat.le_of_eq e.symm))⟩; clear k1 k2 k3 k4 k5)
      go_ret
      exact HF.out
end Go.Proofs.Ytpcbfoddlpgdjaa
