/- Walks of package little and of its reference: numbers and texts written; sums; a number read. -/
import Derived.Test.YtbpcddimnbjoeaaMem
import Derived.Test.YtbpcddimnbjoeaaLitP
import Derived.Lib.ConvBytes
namespace Go.Proofs.Ytbpcddimnbjoeaa
open Go.RowKit

/-- A text as its bytes: a new row. -/
theorem conv_bytes {P : Program} {src dst e : TypeId} {u : TypeDesc} (hs : P.underlying src = some u) (hd : P.underlying dst = some (.slice e)) (he : P.underlying e = some (.int .u8)) (l : List Int) (hl : Bytes l) (w : World) :
    ∃ c W, (convert src dst (.string (strOfNums l))).run P w = .ok (.slice (some ⟨w.heap.size, 0, none⟩) l.length c) W ∧ (∀ j, j < l.length → W.cell? ⟨w.heap.size, j, none⟩ = some (.int .u8 (ig l j))) ∧ Below w.heap.size w W := by
  refine ⟨_, _, by rw [Lib.run_convert_string_bytes w src dst e _ hs hd he, strOfNums_size], fun j hj => ?_, ?_⟩
  · rw [Lib.bytesWorld_cell w e _ j (by rw [strOfNums_size]; exact hj)]
    have hj' : j < (strOfNums l).data.toList.length := by rw [strOfNums_data]; simpa using hj
    have e := congrArg (fun m => m[j]?) (of_str hl)
    simp only [bytesOf, List.getElem?_map, List.getElem?_eq_getElem hj', Option.map_some, List.getElem?_eq_getElem hj] at e
    injection e with e
    rw [ig, List.getD_eq_getElem?_getD, List.getElem?_eq_getElem hj', List.getD_eq_getElem?_getD, List.getElem?_eq_getElem hj]
    simp only [Option.getD_some]
    rw [e]
  · refine ⟨?_, ?_, ?_, by rw [Lib.bytesWorld_size]; omega, fun k hk => Lib.bytesWorld_at_old w e _ k hk⟩
    · simp [Lib.bytesWorld, World.freeze, World.alloc, World.drew, -World.alloc_eq, -World.drew_eq]
    · simp [Lib.bytesWorld, World.freeze, World.alloc, World.drew, -World.alloc_eq, -World.drew_eq]
    · simp [Lib.bytesWorld, World.freeze, World.alloc, World.drew, -World.alloc_eq, -World.drew_eq]
/-- Bytes of the call's own as a text. -/
theorem conv_own {P : Program} {src dst e : TypeId} (hs : P.underlying src = some (.slice e)) (he : P.underlying e = some (.int .u8)) (hd : P.underlying dst = some .string)
    {w : World} {base g n c : Nat} {zs : List Int} (h : w.ownsRow base e 1 (.slice (some ⟨g, 0, none⟩) n c) n (zs.map (.int .u8))) :
    (convert src dst (.slice (some ⟨g, 0, none⟩) n c)).run P w = .ok (.string (strOfNums zs)) w := by
  have hl : zs.length = n := by simpa using h.1
  refine run_convert_bytes_arg w src e hs he g 0 n c zs hl (fun i hi => ?_) dst hd
  rw [Nat.zero_add, (IB.of_own h).cell (by omega)]
  rfl
theorem conv_one {P : Program} {src dst e : TypeId} (hs : P.underlying src = some (.slice e)) (he : P.underlying e = some (.int .u8)) (hd : P.underlying dst = some .string) (w : World) (x : Int) :
    (convert src dst (.slice (some ⟨w.heap.size, 0, none⟩) 1 1)).run P (w.alloc (.cells #[.int .u8 x] e)) = .ok (.string (strOfNums [x])) (w.alloc (.cells #[.int .u8 x] e)) := by
  refine run_convert_bytes_arg _ src e hs he w.heap.size 0 1 1 [x] rfl (fun i hi => ?_) dst hd
  obtain rfl : i = 0 := by omega
  rw [Nat.zero_add, World.cell?_alloc_at _ _ _ _ rfl]
  rfl
theorem div_pow {m k : Nat} (hk : k ≤ 8) (h : m < 2 ^ (64 - 7 * k)) : m / 128 < 2 ^ (64 - 7 * (k + 1)) := by
  refine Nat.div_lt_of_lt_mul ?_
  have e : 2 ^ (64 - 7 * k) = 128 * 2 ^ (64 - 7 * (k + 1)) := by
    rw [show 64 - 7 * k = (64 - 7 * (k + 1)) + 7 by omega, Nat.pow_add]; omega
  omega
theorem num_more {m k : Nat} (hk : k < 9) (hm : 128 ≤ m) : numB (9 - k) m = ((m % 128 + 128 : Nat) : Int) :: numB (9 - (k + 1)) (m / 128) := by
  rw [show 9 - k = (9 - (k + 1)) + 1 by omega, numB, if_neg (by omega)]
theorem num_last {m k : Nat} (hm : m < 128) : numB (9 - k) m = [(m : Int)] := by
  cases h : 9 - k with
  | zero => simp [numB]; omega
  | succ f => rw [numB, if_pos hm]
theorem big_k {m k : Nat} (hk : k ≤ 9) (h : m < 2 ^ (64 - 7 * k)) (hm : 128 ≤ m) : k < 9 := by
  rcases Nat.lt_or_ge k 9 with q | q
  · exact q
  · obtain rfl : k = 9 := by omega
    have : 2 ^ (64 - 7 * 9) = 2 := by decide
    omega
set_option maxRecDepth 100000 in
set_option maxHeartbeats 1000000 in
theorem lit_num (n : Nat) (hn : n < 18446744073709551616) (w : World) :
    Calls Try.prog 39 #[.int .u64 n] w fun e w' => e = .returned (.string (strOfNums (numL n))) ∧ Below w.heap.size w w' := by
  have hn0 : n < 2 ^ (64 - 7 * 0) := hn
  clear hn
  go_enter Try.func39, Try.ntmps39
  go_wp2
  go_loopw [0, 3] (fun x v wr => ∃ (k m : Nat) (A : Option Addr) (c : Nat) (zs : List Int), k ≤ 9 ∧ x = .int .u64 m ∧ v = .slice A k c ∧ wr.ownsRow w.heap.size 5 1 (.slice A k c) k (zs.map (.int .u8)) ∧ Below w.heap.size w wr ∧ Hid (m < 2 ^ (64 - 7 * k)) ∧ Hid (zs ++ numB (9 - k) m = numL n)) (fun x _ _ => (intOf x).toNat)
  case atStart => exact ⟨0, n, none, 0, [], by omega, rfl, rfl, World.ownsRow_nil _ _ _ _, Below.refl _ _, hn0, rfl⟩
  case round =>
    clear hn0
    obtain ⟨k, m, A, c, zs, hk, rfl, rfl, hown, hb, hm, hv⟩ := hrel
    have hsz := hb.size
    by_cases hlt : 128 ≤ m
    · have hk9 := big_k hk hm.out hlt
      have hor : bits .or .u8 ((m : Int) % 256) 128 = ((m % 128 + 128 : Nat) : Int) := by
        have := or128 (m % 256) (by omega)
        rw [show ((m : Int) % 256) = ((m % 256 : Nat) : Int) by omega, this]
        congr 1; omega
      have HM := Lib.hid (num_more hk9 hlt)
      go_wp2_with (at_builtin; refine wpList_push rfl (.tmp 8) (.tmp 12) _ rfl w.heap.size 5 .u8 1 (by decide) Try.underlying34 info_u8 wr A k c zs _ rfl hown rfl (by omega) hsz ?_; intro g' c' w' hown' hb')
      go_roundw
      case rel => exact ⟨k + 1, m / 128, some ⟨g', 0, none⟩, c', _, by omega, by go_num, rfl, hown', hb.trans hb', div_pow (by omega) hm.out, by
        show _ = _
        rw [← hv.out, HM.out]; simp⟩
      case measure => simp [intOf]; omega
    · have e8 : ((m : Int) % 256) = (m : Int) := by omega
      have HM := Lib.hid (num_last (k := k) (show m < 128 by omega))
      go_wp2_with (at_builtin; refine wpList_push rfl (.tmp 14) (.tmp 17) _ rfl w.heap.size 5 .u8 1 (by decide) Try.underlying34 info_u8 wr A k c zs _ rfl hown rfl (by omega) hsz ?_; intro g' c' w' hown' hb'; have hcv := conv_own (P := Try.prog) Try.underlying34 Try.underlying5 Try.underlying9 hown')
      go_ret
      exact ⟨by rw [← hv.out, HM.out]; rfl, hb.trans hb'⟩
set_option maxRecDepth 100000 in
set_option maxHeartbeats 1000000 in
theorem ref_num (n : Nat) (hn : n < 18446744073709551616) (w : World) :
    Calls Try.prog 43 #[.int .u64 n] w fun e w' => e = .returned (.string (strOfNums (numL n))) ∧ Below w.heap.size w w' := by
  have hn0 : n < 2 ^ (64 - 7 * 0) := hn
  clear hn
  have hcv := conv_one (P := Try.prog) Try.underlying34 Try.underlying5 Try.underlying9
  have hap := str_append
  have hss := strOfNums_size
  go_enter Try.func43, Try.ntmps43
  go_wp2
  go_loopw [0, 3] (fun x v wr => ∃ (k m : Nat) (zs : List Int), k ≤ 9 ∧ x = .int .u64 m ∧ v = .string (strOfNums zs) ∧ Hid (zs.length = k) ∧ Below w.heap.size w wr ∧ Hid (m < 2 ^ (64 - 7 * k)) ∧ Hid (zs ++ numB (9 - k) m = numL n)) (fun x _ _ => (intOf x).toNat)
  case atStart => exact ⟨0, n, [], by omega, rfl, rfl, rfl, Below.refl _ _, hn0, rfl⟩
  case round =>
    clear hn0
    obtain ⟨k, m, zs, hk, rfl, rfl, hl, hb, hm, hv⟩ := hrel
    have hsz := hb.size
    have hlz : zs.length ≤ 9 := by rw [hl.out]; exact hk
    by_cases hlt : 128 ≤ m
    · have hk9 := big_k hk hm.out hlt
      have HM := Lib.hid (num_more hk9 hlt)
      have hq : IntKind.u64.wrap ((m : Int) / 128) = ((m / 128 : Nat) : Int) := by
        have h1 := Nat.lt_of_lt_of_le hm.out (Nat.pow_le_pow_right (n := 2) (by decide) (show 64 - 7 * k ≤ 64 by omega))
        have h2 : m < 18446744073709551616 := h1
        rw [show ((m : Int) / 128) = ((m / 128 : Nat) : Int) by omega, wrap_nat, Nat.mod_eq_of_lt (by omega)]
      go_wp2
      clear hq
      go_roundw
      case rel => exact ⟨k + 1, m / 128, _, by omega, by go_num, rfl, by show _ = _; rw [List.length_append, hl.out]; rfl, hb.alloc hsz _, div_pow (by omega) hm.out, by
        show _ = _
        rw [← hv.out, HM.out]
        simp⟩
      case measure => simp [intOf]; omega
    · have e8 : ((m : Int) % 256) = (m : Int) := by omega
      have HM := Lib.hid (num_last (k := k) (show m < 128 by omega))
      go_wp2
      go_ret
      exact ⟨by rw [← hv.out, HM.out]; rfl, hb.alloc hsz _⟩
/-- A text's sum. -/
def sumStep (n b : Int) : Int := bits .xor .u32 n b * 16777619 % 4294967296
def sumL (l : List Int) : Int := l.foldl sumStep 2166136261
theorem sum_step (l : List Int) (k : Nat) (h : k < l.length) : (l.take (k + 1)).foldl sumStep 2166136261 = sumStep ((l.take k).foldl sumStep 2166136261) (ig l k) := by
  rw [take_step h, List.foldl_append]; rfl
set_option maxHeartbeats 1000000 in
theorem lit_sum (l : List Int) (hl : Bytes l) (hn : l.length ≤ 4611686018427387904) (w : World) :
    Calls Try.prog 41 #[.string (strOfNums l)] w fun e w' => e = .returned (.int .u32 (sumL l)) ∧ Below w.heap.size w w' := by
  obtain ⟨c, W, hcv, hcell, hb⟩ := conv_bytes (P := Try.prog) Try.underlying9 Try.underlying34 Try.underlying5 l hl w
  have HC := Lib.hid hcell
  clear hcell
  go_enter Try.func41, Try.ntmps41
  go_wp2
  clear hcv
  go_loop [3, 9] (fun x i => ∃ k : Nat, k ≤ l.length ∧ i = .int .i64 k ∧ x = .int .u32 ((l.take k).foldl sumStep 2166136261)) (fun _ i => (l.length - intOf i).toNat)
  case atStart => exact ⟨0, Nat.zero_le _, rfl, rfl⟩
  case round =>
    obtain ⟨k, hk, rfl, rfl⟩ := hrel
    by_cases hlt : k < l.length
    · have hc := HC.out k hlt
      obtain ⟨b0, b1⟩ := hl.at_ k
      have hb0 : 0 ≤ ig l k := b0
      have hb1 : ig l k < 256 := b1
      have HS := Lib.hid (sum_step l k hlt)
      obtain ⟨t, ht⟩ : ∃ t, (l.take k).foldl sumStep 2166136261 = t := ⟨_, rfl⟩
      rw [ht] at HS ⊢
      clear b0 b1 ht
      go_wp2
      go_round
      case rel => exact ⟨k + 1, by omega, by go_num, by rw [HS.out]; rfl⟩
      case measure => simp [intOf]; omega
    · obtain rfl : k = l.length := by omega
      go_wp2
      go_ret
      exact ⟨ret_int (by rfl), hb⟩
set_option maxHeartbeats 1000000 in
theorem ref_sum (l : List Int) (hl : Bytes l) (hn : l.length ≤ 4611686018427387904) (w : World) :
    Calls Try.prog 45 #[.string (strOfNums l)] w fun e w' => e = .returned (.int .u32 (sumL l)) ∧ w = w' := by
  have hss := strOfNums_size l
  go_enter Try.func45, Try.ntmps45
  go_wp2
  go_loop [3, 4] (fun x i => ∃ k : Nat, k ≤ l.length ∧ i = .int .i64 k ∧ x = .int .u32 ((l.take k).foldl sumStep 2166136261)) (fun _ i => (l.length - intOf i).toNat)
  case atStart => exact ⟨0, Nat.zero_le _, rfl, rfl⟩
  case round =>
    obtain ⟨k, hk, rfl, rfl⟩ := hrel
    by_cases hlt : k < l.length
    · have hg : ∀ h : k < (strOfNums l).size, (((strOfNums l)[k]'h).toNat : Int) = ig l k := fun h => str_get l hl k h
      obtain ⟨b0, b1⟩ := hl.at_ k
      have hb0 : 0 ≤ ig l k := b0
      have hb1 : ig l k < 256 := b1
      have HS := Lib.hid (sum_step l k hlt)
      obtain ⟨t, ht⟩ : ∃ t, (l.take k).foldl sumStep 2166136261 = t := ⟨_, rfl⟩
      rw [ht] at HS ⊢
      clear b0 b1 ht
      go_wp2
      go_round
      case rel => exact ⟨k + 1, by omega, by go_num, by rw [HS.out]; rfl⟩
      case measure => simp [intOf]; omega
    · obtain rfl : k = l.length := by omega
      go_wp2
      go_ret
      exact ⟨ret_int (by rfl), rfl⟩
end Go.Proofs.Ytbpcddimnbjoeaa
