/- Walks of package pack and of its reference: the parts of a word. -/
import Derived.Test.YtlfblckniikdiaaPackW
namespace Go.Proofs.Ytlfblckniikdiaa
open Go.RowKit
/-- What a call that gives the parts of a word says. (A definition of its own, so that the walk leaves it whole.) -/
def RetF (zs vs : List Int) (w : World) (e : Ending) (w' : World) : Prop :=
  (∃ A c, e = .returned (.tuple #[.slice A (if wideF zs 64 then vs else []).length c, .int .i64 (if wideF zs 64 then 0 else 6)]) ∧
    Rd w' w'.heap.size A (if wideF zs 64 then vs else []).length ((if wideF zs 64 then vs else []).map (.int .u64))) ∧ Below w.heap.size w w'
theorem RetF.bad {zs vs : List Int} {w : World} (h : wideF zs 64 = false) : RetF zs vs w (.returned (.tuple #[.slice none 0 0, .int .i64 6])) w := by
  unfold RetF
  rw [h]
  exact ⟨⟨none, 0, rfl, Rd.nil_⟩, Below.refl _ _⟩
theorem RetF.good {zs vs : List Int} {w w' : World} {A : Option Addr} {n c : Nat} (h : wideF zs 64 = true) (hn : vs.length = n) (hr : Rd w' w'.heap.size A n (vs.map (.int .u64))) (hb : Below w.heap.size w w') :
    RetF zs vs w (.returned (.tuple #[.slice A n c, .int .i64 0])) w' := by
  unfold RetF
  rw [h]
  subst hn
  exact ⟨⟨A, c, rfl, hr⟩, hb⟩
theorem wide_step {z : Int} {zs : List Int} {left : Nat} (h : wideF (z :: zs) left = true) : ∃ n : Nat, z = n ∧ 0 < n ∧ n ≤ left ∧ wideF zs ((left - n : Nat) : Int) = true := by
  rw [wideF] at h
  split at h
  · cases h
  · rename_i hn
    obtain ⟨n, rfl⟩ := Int.eq_ofNat_of_zero_le (show 0 ≤ z by omega)
    exact ⟨n, rfl, by omega, by omega, by rw [show ((left - n : Nat) : Int) = (left : Int) - n by omega]; exact h⟩
set_option maxRecDepth 100000 in
set_option maxHeartbeats 2000000 in
theorem pack_fields (v : Nat) (hv : v < 18446744073709551616) (A : Option Addr) (m c : Nat) (zs : List Int) (w : World) (hr : Rd w w.heap.size A m (zs.map (.int .i64))) (hm : m ≤ 100) :
    Calls Try.prog 16 #[.int .u64 v, .slice A m c] w (RetF zs (fieldsF v zs) w) := by
  have hwid := pack_wide A m c zs w hr hm
  have HR := Lib.hid hr
  have HL := Lib.hid hr.lenI
  clear hr
  cases hw : wideF zs 64 with
  | false =>
    rw [hw] at hwid
    have HW := Lib.hid hw
    clear hw
    go_enter Try.func16, Try.ntmps16
    go_wp2_with (go_at_call 33; refine hwid.mono ?_; rintro e w' ⟨rfl, rfl⟩)
    refine bodyPost_ret (v := .tuple #[.slice none 0 0, .int .i64 6]) (by simp [results, Try.results16, go_sem]) rfl ?_
    exact RetF.bad HW.out
  | true =>
    rw [hw] at hwid
    have HW := Lib.hid hw
    clear hw
    have hmk := fun (kl kc : IntKind) => run_make_row' (P := Try.prog) 38 22 (.int .u64 0) 8 Try.underlying38 info_u64 rfl kl kc m (by omega) (by omega)
    go_enter Try.func16, Try.ntmps16
    go_wp2_with (go_at_call 33; refine hwid.mono ?_; rintro e w' ⟨rfl, rfl⟩)
    clear hmk hwid
    go_loopw [0, 17] (fun x i wr => ∃ (u left k : Nat) (cs : List Int), k ≤ m ∧ left ≤ 64 ∧ u < 18446744073709551616 ∧ x = .int .u64 u ∧ i = .int .i64 k ∧ Hid (cs.length = m) ∧ Hid (wideF (zs.drop k) left = true) ∧ Hid (cs.take k ++ fieldsF u (zs.drop k) = fieldsF v zs) ∧ IB wr w.heap.size 22 .u64 cs ∧ Below w.heap.size w wr) (fun _ i _ => m - (intOf i).toNat)
    case atStart => exact ⟨v, 64, 0, List.replicate m 0, Nat.zero_le _, by decide, hv, rfl, rfl, by show _ = _; simp, HW.out, rfl, IB.made w _ m _, (Below.refl _ _).alloc (Nat.le_refl _) _⟩
    case round =>
      obtain ⟨u, left, k, cs, hk, hleft, hu, rfl, rfl, hl, hwd, hf, hib, hb⟩ := hrel
      by_cases hlt : k < m
      · obtain ⟨b, o, rfl, hb0, hc0⟩ := HR.out.atI hlt
        have hc := (hb.cell (p := ⟨b, o + k, none⟩) hb0).trans hc0
        have hkc : k < cs.length := by rw [hl.out]; exact hlt
        have HD := Lib.hid (drop_ig (l := zs) (k := k) (by rw [HL.out]; exact hlt))
        have hwd2 := hwd.out
        rw [HD.out] at hwd2
        obtain ⟨n, hzn, hn0, hnl, hwd3⟩ := wide_step hwd2
        have HF : Hid ((cs.set k ((u % 2 ^ n : Nat) : Int)).take (k + 1) ++ fieldsF (u / 2 ^ n) (zs.drop (k + 1)) = fieldsF v zs) := by
          show _ = _
          rw [← hf.out, HD.out, take_set hkc, hzn, List.append_assoc]
          rfl
        rw [hzn] at hc
        have HWD := Lib.hid hwd3
        have hfz := hib.frozen k
        have hcl := hib.cell hkc
        clear hc0 hwd2 hzn hwd3
        go_wp2_with (go_at_call 34; refine (pack_low u n (by omega) _).mono ?_; rintro e w' ⟨rfl, rfl⟩)
        have hu2 : u / 2 ^ n < 18446744073709551616 := Nat.lt_of_le_of_lt (Nat.div_le_self _ _) hu
        have hib2 := hib.set_ hkc ((u % 2 ^ n : Nat) : Int)
        have hb2 := hb.setCell (p := ⟨w.heap.size, k, none⟩) (Nat.le_refl _) (.int .u64 ((u % 2 ^ n : Nat) : Int))
        go_roundw
        case rel => exact ⟨u / 2 ^ n, left - n, k + 1, cs.set k ((u % 2 ^ n : Nat) : Int), by omega, by omega, hu2, by simp, by go_num, by show _ = _; rw [List.length_set]; exact hl.out, HWD.out, HF.out, by simpa using hib2, by simpa using hb2⟩
        case measure => simp [intOf]; omega
      · have hcs : cs = fieldsF v zs := by
          have := hf.out
          rw [List.drop_of_length_le (by have := HL.out; omega), List.take_of_length_le (by have := hl.out; omega)] at this
          simpa [fieldsF] using this
        have hrd := hib.rd
        rw [hl.out, hcs] at hrd
        have hlen : (fieldsF v zs).length = m := by rw [← hcs]; exact hl.out
        go_wp2
        refine bodyPost_ret (v := .tuple #[.slice (some ⟨w.heap.size, 0, none⟩) m m, .int .i64 0]) (by simp [results, Try.results16, go_sem]) rfl ?_
        exact RetF.good HW.out hlen hrd hb
end Go.Proofs.Ytlfblckniikdiaa
