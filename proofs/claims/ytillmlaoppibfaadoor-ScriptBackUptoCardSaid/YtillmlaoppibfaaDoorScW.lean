/- Scripts: the writer (strings.Builder). -/
import Derived.Test.YtillmlaoppibfaaDoorBase
import Derived.Lib.FrozenHead
import Derived.Lib.FrozenHead2
import Derived.Lib.OthersKept
import Derived.Shelf.Strings.Builder1
import Derived.Lib.Hide
import Derived.Lib.AppendStr
import Derived.Test.YtillmlaoppibfaaDoorYlP
import Derived.Test.YtillmlaoppibfaaDoorRow
import Derived.Deep.RegionHeld
import Derived.WalkKit
import Derived.Deep.Cut
import Derived.Deep.QuietTactic
import Derived.BigQuiet
namespace Go.Proofs.YtillmlaoppibfaaDoor
open Go.RowKit
/-- Bytes as a string. -/
def bsO (l : List UInt8) : ByteArray := ⟨l.toArray⟩
theorem bsO_size (l : List UInt8) : (bsO l).size = l.length := by simp [bsO, ByteArray.size]
/-- A writer in block b: it has l. -/
def BwS (w : World) (B b : Nat) (l : List UInt8) : Prop := Lib.IsBuilderF 47 5 B b (Lib.strCells (bsO l)) w
def BwU (w : World) (B b : Nat) (l : List UInt8) : Prop := Lib.BuilderAtF 47 5 B b (.pointer (some ⟨b, 0, none⟩)) (Lib.strCells (bsO l)) w
theorem BwU.s {w : World} {B b : Nat} {l : List UInt8} (h : BwU w B b l) : BwS w B b l := .inr h
theorem info_bld : (Tryd.prog.info? 45).map (·.size) = some 2 := by kernel_rfl
theorem lies_bld : liesAt Tryd.prog Tryd.prog.depth 47 (2 / Tryd.prog.cellsOf 47) 0 45 1 = true := by kernel_rfl
theorem str_cells_app (l m : List UInt8) : Lib.strCells (bsO l) ++ Lib.strCells (bsO m) = Lib.strCells (bsO (l ++ m)) := by
  unfold Lib.strCells bsO
  simp
theorem str_cells_one (l : List UInt8) (c : UInt8) : Lib.strCells (bsO l) ++ [.int .u8 c.toNat] = Lib.strCells (bsO (l ++ [c])) := by
  unfold Lib.strCells bsO
  simp
theorem str_cells_len (l : List UInt8) : (Lib.strCells (bsO l)).length = l.length := by
  rw [Lib.strCells_length, bsO_size]
theorem info_u8b : (Tryd.prog.info? 5).map (fun i => (i.zero, i.size, i.bytes)) = some (some (.int .u8 0), 1, 1) := by kernel_rfl
/-- What a writer leaves as it was: whatever is neither its own nor a row of bytes. -/
def BwF (B b : Nat) (w w' : World) : Prop := Below B w w' ∧ Lib.OthersKept 5 (some b) w w'
theorem BwF.refl (B b : Nat) (w : World) : BwF B b w w := ⟨Below.refl _ _, Lib.OthersKept.refl _ _ _⟩
theorem BwF.trans {B b : Nat} {x y z : World} (h : BwF B b x y) (h' : BwF B b y z) : BwF B b x z := ⟨h.1.trans h'.1, h.2.trans h'.2⟩
theorem BwF.of {B b : Nat} {w w' : World} (hB : B ≤ w.heap.size) (h : Below w.heap.size w w') : BwF B b w w' :=
  ⟨h.mono hB, fun k o hk _ _ => by
    have hlt : k < w.heap.size := by
      rcases Nat.lt_or_ge k w.heap.size with q | q
      · exact q
      · rw [Array.getElem?_eq_none q] at hk; cases hk
    exact (h.block k hlt).trans hk⟩
/-- A block that is neither the writer's nor a row of bytes is as it was. -/
theorem BwF.blk {B b : Nat} {w w' : World} (h : BwF B b w w') {g t : Nat} {cs : Array Value} (hb : Blk w g t cs) (hg : g ≠ b) (ht : t ≠ 5) : Blk w' g t cs :=
  h.2 g _ hb (fun e => hg (Option.some.inj e)) (fun c fz e => by
    injection e with _ e2 _
    exact ht e2)
set_option maxRecDepth 100000 in
set_option maxHeartbeats 1000000 in
theorem bw_check (B b : Nat) (l : List UInt8) (w : World) (h : BwS w B b l) :
    Calls Tryd.prog 30 #[.pointer (some ⟨b, 0, none⟩)] w fun e w' => e = .returned (.tuple #[]) ∧ BwU w' B b l ∧ BwF B b w w' ∧ w'.cell? ⟨b, 1, none⟩ = w.cell? ⟨b, 1, none⟩ := by
  obtain ⟨j, hj, hjs⟩ := Option.map_eq_some_iff.1 info_bld
  have u46 := run_underlying (P := Tryd.prog) Tryd.underlying42
  have u48 := run_underlying (P := Tryd.prog) Tryd.underlying45
  rcases h with h | h
  · have h0 := h.cell0
    have hsh := h.shape
    have hfz := h.frozen0
    have hc1 : (w.setCell ⟨b, 0, none⟩ (.pointer (some ⟨b, 0, none⟩))).cell? ⟨b, 1, none⟩ = w.cell? ⟨b, 1, none⟩ := by
      obtain ⟨_, v, hbk, _⟩ := h
      have hb : Blk w b 47 #[.pointer none, v] := hbk
      rw [(hb.set_ 0 _).cell, hb.cell]; rfl
    have HU : Hid (BwU (w.setCell ⟨b, 0, none⟩ (.pointer (some ⟨b, 0, none⟩))) B b l ∧ BwF B b w (w.setCell ⟨b, 0, none⟩ (.pointer (some ⟨b, 0, none⟩))) ∧ (w.setCell ⟨b, 0, none⟩ (.pointer (some ⟨b, 0, none⟩))).cell? ⟨b, 1, none⟩ = w.cell? ⟨b, 1, none⟩) :=
      ⟨h.used _, ⟨(Below.refl B w).setCell (p := ⟨b, 0, none⟩) h.1 _, (Lib.OthersKept.refl _ _ w).setCell ⟨b, 0, none⟩ rfl _⟩, hc1⟩
    clear hc1
    clear h
    go_enter Tryd.func30, Tryd.ntmps30
    go_wp2
    rw [Lib.run_to_unsafe w ⟨b, 0, none⟩ Tryd.underlying42 Tryd.underlying89 hj (by rw [hjs]; decide) hsh (Nat.zero_lt_succ 1)]
    simp only [Result.andThen]
    rw [Oper.upon_value]
    go_wp2
    rw [run_callFunc_extern Tryd.func43 (by kernel_rfl) (by kernel_rfl) (by kernel_rfl) (e := Extern.AbiNoEscape.same) (by kernel_rfl)]
    rw [Lib.run_noEscape]
    simp only [Result.andThen]
    rw [Oper.upon_value]
    go_wp2
    rw [Lib.run_from_unsafe w ⟨b, 0, none⟩ Tryd.underlying89 Tryd.underlying42 hj hsh lies_bld]
    simp only [Result.andThen]
    rw [Oper.upon_value]
    go_wp2
    go_end0
    exact ⟨rfl, HU.out⟩
  · have h0 := h.cell0
    have HU := Lib.hid h
    clear h
    go_enter Tryd.func30, Tryd.ntmps30
    go_wp2
    rw [Lib.run_neq_ptr_same w _ Tryd.underlying42 hj]
    go_wp2
    go_end0
    exact ⟨rfl, HU.out, BwF.refl B b _, rfl⟩
set_option maxRecDepth 100000 in
set_option maxHeartbeats 2000000 in
/-- (*strings.Builder).WriteString. -/
theorem bw_write (B b : Nat) (l m : List UInt8) (w : World) (h : BwS w B b l) (hl : l.length + m.length ≤ 140737488355328) (hB : B ≤ w.heap.size) :
    Calls Tryd.prog 19 #[.pointer (some ⟨b, 0, none⟩), .string (bsO m)] w fun e w' => e = .returned (.tuple #[.int .i64 (m.length : Nat), .nilIface]) ∧ BwU w' B b (l ++ m) ∧ BwF B b w w' := by
  obtain ⟨i0, hi, hz0, hz1, hz2⟩ := info_parts info_u8b
  have HC := Lib.hid (bw_check B b l w h)
  have hsl := str_cells_len l
  have hsm := bsO_size m
  obtain ⟨sm, hsm2⟩ : ∃ sm, bsO m = sm := ⟨_, rfl⟩
  have HAP : Hid (Lib.strCells (bsO l) ++ Lib.strCells sm = Lib.strCells (bsO (l ++ m))) := by show _ = _; rw [← hsm2]; exact str_cells_app l m
  rw [hsm2] at hsm ⊢
  clear h hsm2
  go_enter Tryd.func19, Tryd.ntmps19
  go_wp2_with (go_at_call 30; refine HC.out.mono ?_)
  rintro e w1 ⟨rfl, h1, hf1, hc1⟩
  clear hc1
  have hb1 := hf1.1
  obtain ⟨hBb, v, hbk, hown, hne⟩ := h1
  have c0 : w1.cell? ⟨b, 0, none⟩ = some (.pointer (some ⟨b, 0, none⟩)) := by rw [Lib.cell_of_heap hbk]; rfl
  have c1 : w1.cell? ⟨b, 1, none⟩ = some v := by rw [Lib.cell_of_heap hbk]; rfl
  rw [hsl] at hown
  go_wp2_with (at_builtin; refine Lib.wpList_append_own_stringF _ rfl _ _ 43 9 rfl B 5 i0 Tryd.underlying43 Tryd.underlying9 hi hz0 hz1 hz2 _ _ _ rfl hown sm rfl ?c3 ?c4 ?c5 ?_)
  case c3 => unfold maxLen; omega
  case c4 => omega
  case c5 => have := hb1.size; omega
  intro v' w2 hown' hgrow _
  have hlt : b < w1.heap.size := by
    rcases Nat.lt_or_ge b w1.heap.size with h' | h'
    · exact h'
    · simp [Array.getElem?_eq_none h'] at hbk
  have hb2 : w2.heap[b]? = some (.cells #[.pointer (some ⟨b, 0, none⟩), v] 47 (0, 0)) := by
    rw [hgrow.block b hlt (fun e => hne e.symm)]
    exact hbk
  have d0 : w2.cell? ⟨b, 0, none⟩ = some (.pointer (some ⟨b, 0, none⟩)) := by rw [Lib.cell_of_heap hb2]; rfl
  have d1 : w2.cell? ⟨b, 1, none⟩ = some v := by rw [Lib.cell_of_heap hb2]; rfl
  have f1 : w2.frozen? ⟨b, 1, none⟩ = false := Lib.frozen_of_heap hb2 1
  obtain ⟨ao, n', cap, rfl⟩ : ∃ ao n' cap, v' = .slice ao n' cap := by
    rcases hown'.2 with ⟨hv, _⟩ | ⟨g, cap, cur, fz, hv, _⟩
    · exact ⟨_, _, _, hv⟩
    · exact ⟨_, _, _, hv⟩
  have HF : Hid (BwU (w2.setCell ⟨b, 1, none⟩ (.slice ao n' cap)) B b (l ++ m) ∧ BwF B b w (w2.setCell ⟨b, 1, none⟩ (.slice ao n' cap))) := by
    refine ⟨?_, hf1.trans ⟨((Below.refl B w1).grown hgrow (by have := hb1.size; omega) (fun k hk => (hown.lt k hk).1)).setCell (p := ⟨b, 1, none⟩) hBb _, ((Lib.OthersKept.refl _ _ w1).grown hgrow (Lib.ownsRowF_kind hown)).setCell ⟨b, 1, none⟩ rfl _⟩⟩
    unfold BwU
    rw [← HAP.out]
    refine Lib.BuilderAtF.put (T := 47) (e := 5) hBb hb2 ?_ (by decide)
    rw [List.length_append, hsl, Lib.strCells_length, hsm]
    exact hown'
  clear hown' hgrow hown hbk hne hb2 hf1
  go_wp2
  refine bodyPost_ret (v := .tuple #[.int .i64 (m.length : Nat), .nilIface]) (by simp [results, Tryd.results19, go_sem]) rfl ?_
  exact ⟨rfl, HF.out.1, HF.out.2⟩
set_option maxRecDepth 100000 in
set_option maxHeartbeats 2000000 in
/-- (*strings.Builder).WriteByte. -/
theorem bw_byte (B b : Nat) (l : List UInt8) (c : UInt8) (z : Int) (hz : z = (c.toNat : Int)) (w : World) (h : BwS w B b l) (hl : l.length + 1 ≤ 140737488355328) (hB : B ≤ w.heap.size) :
    Calls Tryd.prog 20 #[.pointer (some ⟨b, 0, none⟩), .int .u8 z] w fun e w' => e = .returned .nilIface ∧ BwU w' B b (l ++ [c]) ∧ BwF B b w w' := by
  obtain ⟨i0, hi, hz0, hz1, hz2⟩ := info_parts info_u8b
  have HC := Lib.hid (bw_check B b l w h)
  have hsl := str_cells_len l
  have HAP : Hid (Lib.strCells (bsO l) ++ [.int .u8 z] = Lib.strCells (bsO (l ++ [c]))) := by show _ = _; rw [hz]; exact str_cells_one l c
  clear h hz
  go_enter Tryd.func20, Tryd.ntmps20
  go_wp2_with (go_at_call 30; refine HC.out.mono ?_)
  rintro e w1 ⟨rfl, h1, hf1, hc1⟩
  clear hc1
  have hb1 := hf1.1
  obtain ⟨hBb, v, hbk, hown, hne⟩ := h1
  have c0 : w1.cell? ⟨b, 0, none⟩ = some (.pointer (some ⟨b, 0, none⟩)) := by rw [Lib.cell_of_heap hbk]; rfl
  have c1 : w1.cell? ⟨b, 1, none⟩ = some v := by rw [Lib.cell_of_heap hbk]; rfl
  rw [hsl] at hown
  go_wp2_with (at_builtin; refine wpList_append_ownF _ rfl _ _ 43 rfl B 5 i0 (.int .u8 0) 1 1 Tryd.underlying43 hi hz0 hz1 hz2 rfl (by decide) _ _ _ rfl (hown.alloc _) ⟨w1.heap.size, 0, none⟩ 1 1 [.int .u8 z] rfl rfl ?c1 ?c2 ?c3 ?c4 ?c5 ?_)
  case c1 =>
    intro j u hj
    match j, hj with
    | 0, hj => simp at hj; subst hj; simp [Addr.add]
  case c2 => intro u hu; simp at hu; subst hu; rfl
  case c3 => unfold maxLen; omega
  case c4 => omega
  case c5 => have := hb1.size; simp; omega
  intro v' w2 hown' hgrow _
  have hlt : b < w1.heap.size := by
    rcases Nat.lt_or_ge b w1.heap.size with h' | h'
    · exact h'
    · simp [Array.getElem?_eq_none h'] at hbk
  have hb2 : w2.heap[b]? = some (.cells #[.pointer (some ⟨b, 0, none⟩), v] 47 (0, 0)) := by
    rw [hgrow.block b (by simp; omega) (fun e => hne e.symm), Lib.alloc_old w1 _ b hlt]
    exact hbk
  have d0 : w2.cell? ⟨b, 0, none⟩ = some (.pointer (some ⟨b, 0, none⟩)) := by rw [Lib.cell_of_heap hb2]; rfl
  have d1 : w2.cell? ⟨b, 1, none⟩ = some v := by rw [Lib.cell_of_heap hb2]; rfl
  have f1 : w2.frozen? ⟨b, 1, none⟩ = false := Lib.frozen_of_heap hb2 1
  obtain ⟨ao, n', cap, rfl⟩ : ∃ ao n' cap, v' = .slice ao n' cap := by
    rcases hown'.2 with ⟨hv, _⟩ | ⟨g, cap, cur, fz, hv, _⟩
    · exact ⟨_, _, _, hv⟩
    · exact ⟨_, _, _, hv⟩
  have HF : Hid (BwU (w2.setCell ⟨b, 1, none⟩ (.slice ao n' cap)) B b (l ++ [c]) ∧ BwF B b w (w2.setCell ⟨b, 1, none⟩ (.slice ao n' cap))) := by
    refine ⟨?_, hf1.trans ⟨(((Below.refl B w1).alloc (by have := hb1.size; omega) _).grown hgrow (by have := hb1.size; simp; omega) (fun k hk => (hown.lt k hk).1)).setCell (p := ⟨b, 1, none⟩) hBb _, (((Lib.OthersKept.refl _ _ w1).alloc _).grown hgrow (Lib.ownsRowF_kind (hown.alloc _))).setCell ⟨b, 1, none⟩ rfl _⟩⟩
    unfold BwU
    rw [← HAP.out]
    refine Lib.BuilderAtF.put (T := 47) (e := 5) hBb hb2 ?_ (by decide)
    rw [List.length_append, hsl]
    exact hown'
  clear hown' hgrow hown hbk hne hb2 hf1
  go_wp2
  go_ret
  exact ⟨rfl, HF.out.1, HF.out.2⟩
set_option maxRecDepth 100000 in
/-- (*strings.Builder).Len. -/
theorem bw_len (B b : Nat) (l : List UInt8) (w : World) (h : BwS w B b l) :
    Calls Tryd.prog 13 #[.pointer (some ⟨b, 0, none⟩)] w fun e w' => e = .returned (.int .i64 (l.length : Nat)) ∧ w' = w := by
  have hsl := str_cells_len l
  obtain ⟨p, hB, v, hbk, hown, hne⟩ : ∃ p, Lib.BuilderAtF 47 5 B b p (Lib.strCells (bsO l)) w := by
    rcases h with h | h
    · exact ⟨_, h⟩
    · exact ⟨_, h⟩
  rw [hsl] at hown
  obtain ⟨ao, cap, rfl⟩ : ∃ ao cap, v = .slice ao l.length cap := by
    rcases hown.2 with ⟨hv, h0⟩ | ⟨g, cap, cur, fz, hv, _⟩
    · exact ⟨none, 0, by rw [hv, h0]⟩
    · exact ⟨_, _, hv⟩
  have c1 : w.cell? ⟨b, 1, none⟩ = some (.slice ao l.length cap) := by rw [Lib.cell_of_heap hbk]; rfl
  clear hown hbk hne hsl
  go_enter Tryd.func13, Tryd.ntmps13
  go_wp2
  go_ret
  exact ⟨rfl, rfl⟩
set_option maxRecDepth 100000 in
set_option maxHeartbeats 2000000 in
/-- (*strings.Builder).String, of some bytes. -/
theorem bw_string_p (p : Value) (B b : Nat) (l : List UInt8) (w : World) (h : Lib.BuilderAtF 47 5 B b p (Lib.strCells (bsO l)) w) (h0 : 0 < l.length) (hlm : l.length ≤ 1099511627776) :
    Calls Tryd.prog 14 #[.pointer (some ⟨b, 0, none⟩)] w fun e w' => e = .returned (.string (bsO l)) ∧ Lib.BuilderAtF 47 5 B b p (Lib.strCells (bsO l)) w' ∧ BwF B b w w' := by
  have hA := h
  have hs := bsO_size l
  obtain ⟨s, hs2⟩ : ∃ s, bsO l = s := ⟨_, rfl⟩
  rw [hs2] at hs hA ⊢
  have hl0 : s.data.toList.length = l.length := by rw [← hs]; rfl
  have hA2 := hA
  obtain ⟨hB, v, hbk, hown, hne⟩ := hA
  rw [Lib.strCells_length, hs] at hown
  obtain ⟨g, cap, cur, fz, rfl, hbg, hg, hfz, hnc, hcm, hcs, htake⟩ : ∃ g cap cur fz, v = .slice (some ⟨g, 0, none⟩) l.length cap ∧ B ≤ g ∧ w.heap[g]? = some (.cells cur 5 fz) ∧ fz.2 ≤ l.length * 1 ∧ l.length ≤ cap ∧ cap ≤ maxLen ∧ cur.size = cap * 1 ∧ cur.toList.take (l.length * 1) = Lib.strCells s := by
    rcases hown.2 with ⟨_, hz⟩ | ⟨g, cap, cur, fz, hv, r⟩
    · exact absurd hz (by omega)
    · exact ⟨g, cap, cur, fz, hv, r⟩
  have c1 : w.drew.cell? ⟨b, 1, none⟩ = some (.slice (some ⟨g, 0, none⟩) l.length cap) := by
    have : w.drew.heap[b]? = some (.cells #[p, .slice (some ⟨g, 0, none⟩) l.length cap] 47 (0, 0)) := hbk
    rw [Lib.cell_of_heap this]; rfl
  have hSD : (Builtin.unsafeSliceData_ #[43] 73 #[.slice (some ⟨g, 0, none⟩) l.length cap]).run Tryd.prog w.drew = .ok (.pointer (some ⟨g, 0, none⟩)) w.drew :=
    Lib.run_unsafeSliceData_row _ _ _ _ _ _ (by omega)
  have hUS : (Builtin.unsafeString_ #[73, 3] 9 #[.pointer (some ⟨g, 0, none⟩), .int .i64 l.length]).run Tryd.prog w.drew = .ok (.string s) (w.drew.freeze ⟨g, 0, none⟩ l.length) := by
    have := Lib.run_unsafeString_row (P := Tryd.prog) w.drew 73 3 9 5 Tryd.underlying73 (by kernel_rfl) g cur.size (by have hg' : w.drew.heap[g]? = some (.cells cur 5 fz) := hg; simp [World.shape?, hg']) s.data.toList (by intro e; rw [e] at hl0; simp at hl0; omega) (by omega) (by unfold maxLen at hcm; omega) (by
      intro j x hx
      have := hown.cells (g := g) rfl j (.int .u8 x.toNat) (by simp [Lib.strCells, hx])
      exact this)
    rw [hl0] at this
    exact this
  have hF := hA2.drew.froze (g := g) (cap := cap) (by rw [Lib.strCells_length, hs]; exact c1)
  rw [Lib.strCells_length, hs] at hF
  have hgb : b ≠ g := fun e => hne (by rw [e]; rfl)
  have HK : Hid (Lib.BuilderAtF 47 5 B b p (Lib.strCells s) (w.drew.freeze ⟨g, 0, none⟩ l.length) ∧ BwF B b w (w.drew.freeze ⟨g, 0, none⟩ l.length)) :=
    ⟨hF, Lib.below_freeze (Below.drew (Below.refl B w)) (p := ⟨g, 0, none⟩) hbg _, ((Lib.OthersKept.refl _ _ w).drew).freeze ⟨g, 0, none⟩ _ ⟨cur, fz, hg⟩⟩
  clear hgb
  have mixed : Tryd.prog.follows Departure.mixedOrders = true := by kernel_rfl
  have u34 := run_underlying (P := Tryd.prog) Tryd.underlying43
  have u87 := run_underlying (P := Tryd.prog) Tryd.underlying73
  clear hF hA2 hown hg htake hbk hne h hs2
  go_enter Tryd.func14, Tryd.ntmps14
  go_wp2
  go_region_o
  all_goals (go_wp2; go_ret; exact ⟨rfl, HK.out.1, HK.out.2⟩)
theorem bw_string (B b : Nat) (l : List UInt8) (w : World) (h : BwS w B b l) (h0 : 0 < l.length) (hlm : l.length ≤ 1099511627776) :
    Calls Tryd.prog 14 #[.pointer (some ⟨b, 0, none⟩)] w fun e w' => e = .returned (.string (bsO l)) ∧ BwS w' B b l ∧ BwF B b w w' := by
  rcases h with h | h
  · exact (bw_string_p _ B b l w h h0 hlm).mono fun e w' hh => ⟨hh.1, .inl hh.2.1, hh.2.2⟩
  · exact (bw_string_p _ B b l w h h0 hlm).mono fun e w' hh => ⟨hh.1, .inr hh.2.1, hh.2.2⟩
theorem BwS.below {w w' : World} {B b : Nat} {l : List UInt8} (h : BwS w B b l) (hb : Below w.heap.size w w') : BwS w' B b l := by
  have key : ∀ p, Lib.BuilderAtF 47 5 B b p (Lib.strCells (bsO l)) w → Lib.BuilderAtF 47 5 B b p (Lib.strCells (bsO l)) w' := by
    rintro p ⟨h1, v, h2, h3, h4⟩
    have hlt : b < w.heap.size := by
      rcases Nat.lt_or_ge b w.heap.size with q | q
      · exact q
      · rw [Array.getElem?_eq_none q] at h2; cases h2
    refine ⟨h1, v, (hb.block b hlt).trans h2, ?_, h4⟩
    refine ⟨h3.1, ?_⟩
    rcases h3.2 with q | ⟨g, cap, cur, fz, e, hg, hh, r⟩
    · exact .inl q
    · have hgl : g < w.heap.size := by
        rcases Nat.lt_or_ge g w.heap.size with q | q
        · exact q
        · rw [Array.getElem?_eq_none q] at hh; cases hh
      exact .inr ⟨g, cap, cur, fz, e, hg, (hb.block g hgl).trans hh, r⟩
  rcases h with h | h
  · exact .inl (key _ h)
  · exact .inr (key _ h)
theorem BwS.lt {w : World} {B b : Nat} {l : List UInt8} (h : BwS w B b l) : b < w.heap.size := by
  have key : ∀ p, Lib.BuilderAtF 47 5 B b p (Lib.strCells (bsO l)) w → b < w.heap.size := by
    rintro p ⟨_, v, h2, _⟩
    rcases Nat.lt_or_ge b w.heap.size with q | q
    · exact q
    · rw [Array.getElem?_eq_none q] at h2; cases h2
  rcases h with h | h
  · exact key _ h
  · exact key _ h
theorem BwS.base {w : World} {B b : Nat} {l : List UInt8} (h : BwS w B b l) : B ≤ b := by rcases h with h | h <;> exact h.1
end Go.Proofs.YtillmlaoppibfaaDoor
