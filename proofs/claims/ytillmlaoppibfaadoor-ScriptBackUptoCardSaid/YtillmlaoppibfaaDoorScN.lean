/- Scripts: a number's word, printed and read. -/
import Derived.Test.YtillmlaoppibfaaDoorScE
import Derived.Lib.AppendIntMem
import Derived.TacticsInMore
import Derived.Deep.RegionHeld
import Derived.Deep.Cut
import Derived.Deep.QuietTactic
namespace Go.Proofs.YtillmlaoppibfaaDoor
open Go.RowKit Go.Sort
set_option maxHeartbeats 6400000 in
set_option maxRecDepth 100000 in
theorem sc_utoa_in (u : Nat) (hu64 : u < 18446744073709551616) (w : World) (he : Env w) :
    Calls Tryd.prog 31 #[.int .u64 u, .int .i64 10] w fun e w' => e = .returned (.string ⟨(Lib.decDigits u).toArray⟩) ∧ Below w.heap.size w w' := by
  by_cases hi : u < 100
  · go_enter Tryd.func31, Tryd.ntmps31
    go_wp2_with (go_at_call 44; refine (sh_internal_strconv_small u hi _).mono ?_; rintro e w' ⟨rfl, rfl⟩)
    go_ret
    exact ⟨rfl, Below.refl _ _⟩
  · have hu1 : 1 ≤ u := by omega
    have hnd20 : Lib.nDigits u ≤ 20 := by have := Lib.numDigits_eq u hu1 hu64; split at this <;> omega
    have hal : Tryd.prog.arrayLen 91 = 24 := by kernel_rfl
    have hel : Tryd.prog.elem 91 = 5 := by kernel_rfl
    have hsl1 : ∀ W, (Instr.sliceAt 91 (.pointer (some ⟨w.heap.size, 0, none⟩)) none (some (.int .i64 (Lib.nDigits u : Int))) none).run Tryd.prog W = .ok (.slice (some ⟨w.heap.size, 0, none⟩) (Lib.nDigits u) 24) W := fun W => by
      rw [run_sliceAt_array_h W 91 ⟨w.heap.size, 0, none⟩ (by simp [Program.arrayLen, Program.elem, Tryd.underlying91]) .i64 (Lib.nDigits u : Int) (by omega) (by rw [hal]; omega)]
      rw [hel, hal]
      have z5 := Tryd.sizeOf5
      go_simp
    have hH0 := Lib.holds_zero0 w 91 (Lib.nDigits u) (by omega)
    have hfmt := sh_internal_strconv_formatBase10 w.heap.size 0 24 u (Array.replicate (Lib.nDigits u) 0) (w.alloc (.cells Lib.zeros24 91)) hH0 (by rw [Array.size_replicate]; exact Lib.lt_pow_nDigits u) hu64 (by rw [Array.size_replicate]; omega)
    rw [Array.size_replicate] at hfmt
    have HH0 := Lib.hid hH0
    have htab := he.tab
    clear hH0 hal hel
    go_enter Tryd.func31, Tryd.ntmps31
    go_wp2_with (go_at_call 45; refine (Any.internal_strconv_numDigits { laysM173 with } u hu1 hu64 _ (Lib.tabIs_alloc htab _)).mono ?_; rintro e w' ⟨rfl, rfl⟩)
    go_at_call 46
    refine hfmt.mono ?_
    rintro e w' ⟨rfl, k, v', dk, rfl, hF⟩
    have hcv : (convert 43 9 (.slice (some ⟨w.heap.size, 0, none⟩) (Lib.nDigits u) 24)).run Tryd.prog ((putRow (fun (b : UInt8) => Value.int .u8 (b.toNat : Int)) (w.alloc (.cells Lib.zeros24 91)) w.heap.size 0 dk).drewN k) = .ok (.string ⟨(Lib.decDigits u).toArray⟩) ((putRow (fun (b : UInt8) => Value.int .u8 (b.toNat : Int)) (w.alloc (.cells Lib.zeros24 91)) w.heap.size 0 dk).drewN k) := by
      have h := run_convert_bytes_back (P := Tryd.prog) ((putRow (fun (b : UInt8) => Value.int .u8 (b.toNat : Int)) (w.alloc (.cells Lib.zeros24 91)) w.heap.size 0 dk).drewN k) 43 9 5 ⟨w.heap.size, 0, none⟩ 24 (Lib.decDigits u) Tryd.underlying43 Tryd.underlying5 Tryd.underlying9 (fun j hj => by
        rw [Lib.row_is_numeral hF j hj, Lib.add_plain, World.cell?_drewN]
        exact cell?_putRow (fun (b : UInt8) => Value.int .u8 (b.toNat : Int)) _ w.heap.size 0 _ dk HH0.out (by rw [hF.size, Array.size_replicate]) j (by rw [hF.size]; rw [Lib.decDigits_length] at hj; exact hj))
      rw [Lib.decDigits_length] at h
      exact h
    go_wp2
    go_ret
    obtain ⟨os, eo⟩ := Lib.fin_at w (.cells Lib.zeros24 91) dk k 0
    refine ⟨rfl, ?_⟩
    rw [eo]
    exact below_grow w k os
theorem sc_utoa (u : Nat) (hu64 : u < 18446744073709551616) (w : World) (he : Env w) :
    Calls Tryd.prog 21 #[.int .u64 u, .int .i64 10] w fun e w' => e = .returned (.string ⟨(Lib.decDigits u).toArray⟩) ∧ Below w.heap.size w w' := by
  have H := Lib.hid (sc_utoa_in u hu64 w he)
  clear he
  go_enter Tryd.func21, Tryd.ntmps21
  go_wp2_with (go_at_call 31; refine H.out.mono ?_; rintro e w' ⟨rfl, hb⟩)
  go_ret
  exact ⟨rfl, hb⟩
/-- strconv.ParseUint(s, 10, 64). -/
theorem sc_uint (l : List UInt8) (hl : l.length ≤ 4294967280) (w : World) (he : Env w) :
    Calls Tryd.prog 66 #[.string ⟨l.toArray⟩, .int .i64 10, .int .i64 64] w fun e w' => ∃ (n : Nat) (err : Value), e = .returned (.tuple #[.int .u64 n, err]) ∧ n < 18446744073709551616 ∧ Below w.heap.size w w' ∧
      ((Lib.parseUintB 64 l = .ok n ∧ err = .nilIface) ∨ ((∀ u, Lib.parseUintB 64 l ≠ .ok u) ∧ ∃ N, err = .iface 125 (.pointer (some ⟨N, 0, none⟩)))) := by
  have hs : (⟨l.toArray⟩ : ByteArray).size = l.length := by simp [ByteArray.size]
  match h : Lib.parseUintB 64 l with
  | .ok u =>
    have hu := Lib.parseUintB_le h
    refine (sh_strconv_ParseUint_10_at64_ok ⟨l.toArray⟩ (by rw [hs]; omega) u h w).mono ?_
    rintro e w' ⟨rfl, hw⟩
    refine ⟨u, .nilIface, rfl, by simp at hu; omega, ?_, .inl ⟨rfl, rfl⟩⟩
    rcases hw with rfl | rfl
    · exact Below.refl _ _
    · exact below_bytes w _ _
  | Lib.NumEnd.syntax =>
    obtain ⟨ev, h1, h2⟩ := he.sx
    refine (sh_strconv_ParseUint_10_at64_syntax ⟨l.toArray⟩ (by rw [hs]; omega) h ev w h1 h2).mono ?_
    rintro e w' ⟨N, rfl, _, _, hb⟩
    exact ⟨0, _, rfl, by omega, hb, .inr ⟨fun u e => (by cases e), N, rfl⟩⟩
  | .range =>
    obtain ⟨ev, h1, h2⟩ := he.rg
    refine (sh_strconv_ParseUint_10_at64_range ⟨l.toArray⟩ (by rw [hs]; omega) h ev w h1 h2).mono ?_
    rintro e w' ⟨N, rfl, _, _, hb⟩
    exact ⟨18446744073709551615, _, rfl, by omega, hb, .inr ⟨fun u e => (by cases e), N, rfl⟩⟩
/-- strconv.ParseInt(s, 10, 32). -/
theorem sc_int (l : List UInt8) (hl : l.length ≤ 4294967280) (w : World) (he : Env w) :
    Calls Tryd.prog 54 #[.string ⟨l.toArray⟩, .int .i64 10, .int .i64 32] w fun e w' => ∃ (n : Int) (err : Value), e = .returned (.tuple #[.int .i64 n, err]) ∧ (-2147483648 ≤ n ∧ n ≤ 2147483647) ∧ Below w.heap.size w w' ∧
      ((Lib.parseIntB 32 l = .ok n ∧ err = .nilIface) ∨ ((∀ u, Lib.parseIntB 32 l ≠ .ok u) ∧ ∃ N, err = .iface 125 (.pointer (some ⟨N, 0, none⟩)))) := by
  have hs : (⟨l.toArray⟩ : ByteArray).size = l.length := by simp [ByteArray.size]
  match h : Lib.parseIntB 32 l with
  | .ok u =>
    have hu := Lib.parseIntB_bounds h
    simp at hu
    refine (sh_strconv_ParseInt_10_at32_ok ⟨l.toArray⟩ (by rw [hs]; omega) u h w).mono ?_
    rintro e w' ⟨rfl, hw⟩
    refine ⟨u, .nilIface, rfl, ⟨by omega, by omega⟩, ?_, .inl ⟨rfl, rfl⟩⟩
    rcases hw with rfl | ⟨t, rfl⟩
    · exact Below.refl _ _
    · exact below_bytes w _ _
  | Lib.NumEnd.syntax =>
    obtain ⟨ev, h1, h2⟩ := he.sx
    refine (sh_strconv_ParseInt_10_at32_syntax ⟨l.toArray⟩ (by rw [hs]; omega) h ev w h1 h2).mono ?_
    rintro e w' ⟨N, rfl, _, _, hb⟩
    exact ⟨0, _, rfl, by omega, hb, .inr ⟨fun u e => (by cases e), N, rfl⟩⟩
  | .range =>
    obtain ⟨ev, h1, h2⟩ := he.rg
    refine (sh_strconv_ParseInt_10_at32_range ⟨l.toArray⟩ (by rw [hs]; omega) h ev w h1 h2).mono ?_
    rintro e w' ⟨N, rfl, _, _, hb⟩
    exact ⟨_, _, rfl, (by unfold Lib.intSat; split <;> simp), hb, .inr ⟨fun u e => (by cases e), N, rfl⟩⟩
theorem bs_beq (a b : List UInt8) : ((⟨a.toArray⟩ : ByteArray).toList == (⟨b.toArray⟩ : ByteArray).toList) = decide (a = b) := by
  rw [ByteArray.toList_eq, ByteArray.toList_eq]
  by_cases h : a = b
  · subst h; simp
  · simp [h]
set_option maxRecDepth 100000 in
/-- A word's number; false: it is none. -/
theorem sc_number (l : List UInt8) (most : Nat) (hl : l.length ≤ 4294967280) (w : World) (he : Env w) :
    Calls Tryd.prog 53 #[.string ⟨l.toArray⟩, .int .u64 most] w fun e w' => ∃ (n : Nat), e = .returned (.tuple #[.int .u64 n, .bool (numO l most).isSome]) ∧ n < 18446744073709551616 ∧ (∀ u, numO l most = some u → n = u) ∧ Below w.heap.size w w' := by
  have H := Lib.hid (sc_uint l hl w he)
  have HE := Lib.hid he
  clear he hl
  obtain ⟨o, ho⟩ : ∃ o, numO l most = o := ⟨_, rfl⟩
  rw [ho]
  have HO := Lib.hid ho
  clear ho
  go_enter Tryd.func53, Tryd.ntmps53
  go_wp2_with (go_at_call 66; refine H.out.mono ?_)
  rintro e w1 ⟨n, err, rfl, hn, hb1, hc⟩
  have HN := Lib.hid hn
  rcases hc with ⟨hp, rfl⟩ | ⟨hp, N, rfl⟩
  · have HU := Lib.hid (sc_utoa n hn w1 (HE.out.on hb1))
    clear hn
    by_cases hle : n ≤ most
    · have tl : decide ((n : Int) ≤ (most : Int)) = true := by simp; omega
      by_cases hd : Lib.decDigits n = l
      · have ho : o = some n := by rw [← HO.out]; unfold numO; rw [hp]; simp [hle, hd]
        subst ho
        have hbe : (Lib.decDigits n == l) = true := by simp [hd]
        clear hp hd
        go_wp2_with (go_at_call 21; refine HU.out.mono ?_; rintro e w2 ⟨rfl, hb2⟩)
        go_ret2
        exact ⟨n, rfl, HN.out, fun u e => (Option.some.inj e), hb1.trans (hb2.mono hb1.size)⟩
      · have ho : o = none := by rw [← HO.out]; unfold numO; rw [hp]; simp [hle, hd]
        subst ho
        have hbe : (Lib.decDigits n == l) = false := by simp [hd]
        clear hp hd
        go_wp2_with (go_at_call 21; refine HU.out.mono ?_; rintro e w2 ⟨rfl, hb2⟩)
        go_ret2
        exact ⟨n, rfl, HN.out, fun u e => (by cases e), hb1.trans (hb2.mono hb1.size)⟩
    · have ho : o = none := by rw [← HO.out]; unfold numO; rw [hp]; simp [hle]
      subst ho
      clear hp
      go_wp2
      go_ret2
      exact ⟨n, rfl, HN.out, fun u e => (by cases e), hb1⟩
  · have ho : o = none := by
      rw [← HO.out]; unfold numO
      split
      · rename_i u hu
        exact absurd hu (hp u)
      · rfl
    subst ho
    clear hp hn
    go_wp2
    go_ret2
    exact ⟨n, rfl, HN.out, fun u e => (by cases e), hb1⟩
end Go.Proofs.YtillmlaoppibfaaDoor
