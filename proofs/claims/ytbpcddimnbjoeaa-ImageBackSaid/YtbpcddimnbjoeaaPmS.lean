/- Planes: whether a plane is small. -/
import Derived.Test.YtbpcddimnbjoeaaPmA
namespace Go.Proofs.Ytbpcddimnbjoeaa
open Go.RowKit Go.Maps Go.ChangeMaps Go.MapKept
/-- .. of any length. -/
def IS.Raw (w : World) (B : Nat) (k : IntKind) (l : IS) : Prop := (l.A = none → l.n = 0 ∧ l.c = 0) ∧ l.n ≤ 9223372036854775807 ∧ Rd w B l.A l.n (l.xs.map (.int k)) ∧ ∀ x ∈ l.xs, (Lit.int k x).wf = true
def ND.Raw (w : World) (B : Nat) (d : ND) : Prop := d.vec.Raw w B .i32 ∧ (d.LA = none → d.ln = 0 ∧ d.lc = 0) ∧ d.ln ≤ 9223372036854775807 ∧ Rs w B d.LA d.ln 1 (d.ls.map fun l => [l.v]) ∧ (∀ l ∈ d.ls, l.Raw w B .i64) ∧
  ((Lit.int .u64 d.id).wf = true ∧ (Lit.int .i64 d.level).wf = true ∧ (Lit.int .i64 d.next).wf = true ∧ (Lit.int .i64 d.prev).wf = true ∧ ∀ l ∈ d.ls, l.n ≤ l.c)
def PgRaw (w : World) (B : Nat) (A : Option Addr) (n c : Nat) (ns : List ND) : Prop := (A = none → n = 0 ∧ c = 0) ∧ n ≤ 9223372036854775807 ∧ Rs w B A n 7 (ns.map fun d => d.cells.toList) ∧ ∀ d ∈ ns, d.Raw w B
def smND (d : ND) : Bool := decide (d.ln ≤ 10) && decide (d.vec.n ≤ 50) && d.ls.all fun l => decide (l.n ≤ 80)
def smB (ns : List ND) : Bool := decide (ns.length ≤ 20) && ns.all smND
section
variable {w w' : World} {B B' : Nat} {A : Option Addr} {n c : Nat} {ns : List ND}
theorem IS.Raw.below {k : IntKind} {l : IS} (h : l.Raw w B k) (hb : Below B w w') : l.Raw w' B k := ⟨h.1, h.2.1, h.2.2.1.below hb, h.2.2.2⟩
theorem IS.Raw.more {k : IntKind} {l : IS} (h : l.Raw w B k) (hB : B ≤ B') : l.Raw w B' k := ⟨h.1, h.2.1, h.2.2.1.more hB, h.2.2.2⟩
theorem ND.Raw.below {d : ND} (h : d.Raw w B) (hb : Below B w w') : d.Raw w' B := ⟨h.1.below hb, h.2.1, h.2.2.1, h.2.2.2.1.below hb, fun l hl => (h.2.2.2.2.1 l hl).below hb, h.2.2.2.2.2⟩
theorem ND.Raw.more {d : ND} (h : d.Raw w B) (hB : B ≤ B') : d.Raw w B' := ⟨h.1.more hB, h.2.1, h.2.2.1, h.2.2.2.1.more hB, fun l hl => (h.2.2.2.2.1 l hl).more hB, h.2.2.2.2.2⟩
theorem PgRaw.below (h : PgRaw w B A n c ns) (hb : Below B w w') : PgRaw w' B A n c ns := ⟨h.1, h.2.1, h.2.2.1.below hb, fun d hd => (h.2.2.2 d hd).below hb⟩
theorem PgRaw.more (h : PgRaw w B A n c ns) (hB : B ≤ B') : PgRaw w B' A n c ns := ⟨h.1, h.2.1, h.2.2.1.more hB, fun d hd => (h.2.2.2 d hd).more hB⟩
theorem PgRaw.len (h : PgRaw w B A n c ns) : ns.length = n := by simpa using h.2.2.1.len
theorem PgRaw.at_ (h : PgRaw w B A n c ns) (hs : smB ns = true) : PgAt w B A n c ns := by
  unfold smB at hs
  rw [Bool.and_eq_true, decide_eq_true_eq, List.all_eq_true] at hs
  obtain ⟨h1, h2⟩ := hs
  refine ⟨h.1, by rw [← h.len]; omega, h.2.2.1, fun d hd => ?_⟩
  have h3 := h2 d hd
  unfold smND at h3
  rw [Bool.and_eq_true, Bool.and_eq_true, decide_eq_true_eq, decide_eq_true_eq, List.all_eq_true] at h3
  have hr := h.2.2.2 d hd
  refine ⟨⟨hr.1.1, by omega, hr.1.2.2⟩, hr.2.1, by omega, hr.2.2.2.1, fun l hl => ?_, hr.2.2.2.2.2⟩
  have h4 := h3.2 l hl
  rw [decide_eq_true_eq] at h4
  have hl' := hr.2.2.2.2.1 l hl
  exact ⟨hl'.1, by omega, hl'.2.2⟩
theorem PgRaw.node (h : PgRaw w B A n c ns) {i : Nat} (hi : i < n) : ∃ b o d, A = some ⟨b, o, none⟩ ∧ b < B ∧ ns[i]? = some d ∧ w.rangeAt b (o + i * 7) d.cells.toList ∧ d.Raw w B := by
  obtain ⟨b, o, c, e, hb, hc, _, hr⟩ := h.2.2.1.at_ hi
  rw [List.getElem?_map, Option.map_eq_some_iff] at hc
  obtain ⟨d, hd, rfl⟩ := hc
  exact ⟨b, o, d, e, hb, hd, hr, h.2.2.2 d (List.mem_of_getElem? hd)⟩
theorem ND.Raw.len {d : ND} (h : d.Raw w B) : d.ls.length = d.ln := by simpa using h.2.2.2.1.len
theorem ND.Raw.list {d : ND} (h : d.Raw w B) {i : Nat} (hi : i < d.ln) : ∃ b o l, d.LA = some ⟨b, o, none⟩ ∧ b < B ∧ d.ls[i]? = some l ∧ w.cell? ⟨b, o + i, none⟩ = some l.v ∧ l.Raw w B .i64 := by
  obtain ⟨b, o, c, e, hb, hc, _, hr⟩ := h.2.2.2.1.at_ hi
  rw [List.getElem?_map, Option.map_eq_some_iff] at hc
  obtain ⟨l, hl, rfl⟩ := hc
  refine ⟨b, o, l, e, hb, hl, ?_, h.2.2.2.2.1 l (List.mem_of_getElem? hl)⟩
  have := hr 0 l.v rfl
  rwa [Nat.mul_one, Nat.add_zero] at this
end
def smI (b : Bool) : Int := if b then 1 else 0
theorem smB_no {ns : List ND} {i : Nat} {d : ND} (hd : ns[i]? = some d) (h : smND d = false) : smB ns = false := by
  unfold smB
  rw [List.all_eq_false.2 ⟨d, List.mem_of_getElem? hd, by rw [h]; decide⟩, Bool.and_false]
theorem smB_yes {ns : List ND} (h1 : ns.length ≤ 20) (h : ∀ i d, i < ns.length → ns[i]? = some d → smND d = true) : smB ns = true := by
  unfold smB
  rw [decide_eq_true h1, Bool.true_and, List.all_eq_true]
  intro d hd
  obtain ⟨i, hi, rfl⟩ := List.mem_iff_getElem.1 hd
  exact h i _ hi (List.getElem?_eq_getElem hi)
theorem smND_no {d : ND} {i : Nat} {l : IS} (hl : d.ls[i]? = some l) (h : 80 < l.n) : smND d = false := by
  unfold smND
  rw [List.all_eq_false.2 ⟨l, List.mem_of_getElem? hl, by rw [decide_eq_false (by omega)]; decide⟩, Bool.and_false]
theorem smND_yes {d : ND} (h1 : d.ln ≤ 10) (h2 : d.vec.n ≤ 50) (h : ∀ i, i < d.ls.length → ∀ l, d.ls[i]? = some l → l.n ≤ 80) : smND d = true := by
  unfold smND
  rw [decide_eq_true h1, decide_eq_true h2, Bool.and_self, Bool.true_and, List.all_eq_true]
  intro l hl
  obtain ⟨i, hi, rfl⟩ := List.mem_iff_getElem.1 hl
  exact decide_eq_true (h i hi _ (List.getElem?_eq_getElem hi))
def RetZ (y : Int) (w : World) (e : Ending) (w' : World) : Prop := e = .returned (.int .i64 y) ∧ Below w.heap.size w w'
set_option maxRecDepth 100000 in
set_option maxHeartbeats 1000000 in
theorem small12 (A : Option Addr) (n c : Nat) (ns : List ND) (en tp : Int) (w : World) (hg : PgRaw w w.heap.size A n c ns) :
    Calls Try.prog 5 #[.agg (pgL A n c en tp)] w (RetZ (smI (smB ns)) w) := by
  obtain ⟨w1, hw1⟩ : ∃ x, w.alloc (.cells (pgL A n c en tp) 24) = x := ⟨_, rfl⟩
  obtain ⟨C1, b1⟩ := box_plane hw1
  have hn := hg.2.1
  have HG := Lib.hid ((hg.below b1).more b1.size)
  have HL := Lib.hid hg.len
  have c0 : w1.cell? ⟨w.heap.size, 0, none⟩ = some (.slice A n c) := C1.cell 0
  have HB := Lib.hid b1
  clear hg C1 b1
  unfold pgL at hw1 ⊢
  go_enter Try.func5, Try.ntmps5
  go_upto_region 1 with fail
  (try rw [hw1])
  clear hw1
  by_cases hn20 : 20 < n
  · have HV : Hid (smI (smB ns) = 0) := by show _ = _; unfold smB; rw [decide_eq_false (by rw [HL.out]; omega)]; rfl
    go_wp2_with fail
    go_ret
    exact ⟨by rw [HV.out]; rfl, HB.out⟩
  go_wp2_with fail
  go_loopw [14] (fun s14 wr => ∃ j : Nat, j ≤ n ∧ s14 = .int .i64 j ∧ Hid (∀ i d, i < j → ns[i]? = some d → smND d = true) ∧ Hid (Below w1.heap.size w1 wr)) (fun s14 _ => n - (intOf s14).toNat)
  case atStart => exact ⟨0, Nat.zero_le _, rfl, Lib.hid (fun i d h _ => absurd h (by omega)), Lib.hid (Below.refl _ _)⟩
  case round =>
    obtain ⟨j, hj, rfl, hq, hb⟩ := hrel
    by_cases hlt : j < n
    · have GR := (HG.out.below hb.out).more hb.out.size
      obtain ⟨b, o, d, hA, hbb, hd, hr, hda⟩ := GR.node hlt
      have LN := node_load hr
      have SN := node_put wr d
      have K1 := node_at wr d
      have bX := node_bel wr d
      obtain ⟨X1, hX1⟩ : ∃ y, (wr.alloc (.cells nd0.cells 42)).setCells wr.heap.size 0 d.cells.toList = y := ⟨_, rfl⟩
      rw [hX1] at SN K1 bX
      rw [nd0_lit] at SN
      have HD := Lib.hid hd
      have HBX := Lib.hid (hb.out.trans (bX.mono hb.out.size))
      have HDX := Lib.hid ((hda.below bX).more bX.size)
      have hlm := hda.2.2.1
      have hvm := hda.1.2.1
      have hbad : smND d = false → Hid (smI (smB ns) = 0) := fun h => by show _ = _; rw [smB_no hd h]; rfl
      have HBAD := Lib.hid hbad
      have x1 : X1.cell? ⟨wr.heap.size, 1, none⟩ = some (.slice d.vec.A d.vec.n d.vec.c) := K1.cell 1
      have x4 : X1.cell? ⟨wr.heap.size, 4, none⟩ = some (.slice d.LA d.ln d.lc) := K1.cell 4
      subst hA
      clear hd hr hda K1 bX GR hX1 hbad
      go_upto_region 6 with (first | refine wpList_loadE LN _ rfl rfl rfl ?_ | refine wpList_storeE SN _ _ rfl rfl rfl rfl ?_)
      clear LN SN
      by_cases h10 : 10 < d.ln
      · have HV := HBAD.out (by unfold smND; rw [decide_eq_false (by omega)]; rfl)
        go_wp2_with fail
        go_ret
        exact ⟨by rw [HV.out]; rfl, HB.out.trans (HBX.out.mono HB.out.size)⟩
      by_cases h50 : 50 < d.vec.n
      · have HV := HBAD.out (by unfold smND; rw [decide_eq_false (show ¬ d.vec.n ≤ 50 by omega), Bool.and_false]; rfl)
        go_wp2_with fail
        go_ret
        exact ⟨by rw [HV.out]; rfl, HB.out.trans (HBX.out.mono HB.out.size)⟩
      go_wp2_with fail
      clear x1 x4 c0
      obtain ⟨wo, rfl⟩ : ∃ wo : World, wo = wr := ⟨_, rfl⟩
      go_loopw [32] (fun s32 wr => ∃ i : Nat, i ≤ d.ln ∧ s32 = .int .i64 i ∧ Hid (∀ q, q < i → ∀ l, d.ls[q]? = some l → l.n ≤ 80) ∧ X1 = wr) (fun s32 _ => d.ln - (intOf s32).toNat)
      case atStart => exact ⟨0, Nat.zero_le _, rfl, Lib.hid (fun i h _ => absurd h (by omega)), rfl⟩
      case round =>
        obtain ⟨i, hi, rfl, hqi, rfl⟩ := hrel
        by_cases hli : i < d.ln
        · obtain ⟨b3, o3, l, hLA, hb3, hl3, hc3, hla⟩ := HDX.out.list hli
          have HL3 := Lib.hid hl3
          obtain ⟨LA, hLA2⟩ : ∃ LA, d.LA = LA := ⟨_, rfl⟩
          rw [hLA2] at hLA ⊢
          subst hLA
          obtain ⟨lA, ln, lc, xs⟩ := l
          have hlm3 : ln ≤ 9223372036854775807 := hla.2.1
          change X1.cell? ⟨b3, o3 + i, none⟩ = some (.slice lA ln lc) at hc3
          clear hl3 hla hLA2
          by_cases h80 : 80 < ln
          · have HV := HBAD.out (smND_no HL3.out h80)
            go_wp2_with fail
            go_ret
            exact ⟨by rw [HV.out]; rfl, HB.out.trans (HBX.out.mono HB.out.size)⟩
          · have HQ : Hid (∀ q, q < i + 1 → ∀ l, d.ls[q]? = some l → l.n ≤ 80) := by
              intro q hq l hl
              by_cases e : q = i
              · rw [e, HL3.out] at hl
                injection hl with hl
                rw [← hl]
                show ln ≤ 80
                omega
              · exact hqi.out q (by omega) l hl
            go_wp2_with fail
            go_roundw
            case rel => exact ⟨i + 1, by omega, by go_num, HQ, trivial⟩
            case measure => simp [intOf]; omega
        · obtain rfl : i = d.ln := by omega
          have hok := smND_yes (d := d) (by omega) (by omega) (fun q hq => hqi.out q (by rw [← HDX.out.len]; exact hq))
          have HQ : Hid (∀ i d, i < j + 1 → ns[i]? = some d → smND d = true) := by
            intro q d' hq' hd'
            by_cases e : q = j
            · rw [e, HD.out] at hd'
              injection hd' with hd'
              rw [← hd']; exact hok
            · exact hq.out q d' (by omega) hd'
          clear hok
          go_wp2_with fail
          go_roundw
          case rel => exact ⟨j + 1, by omega, by go_num, HQ, HBX⟩
          case measure => simp [intOf]; omega
    · obtain rfl : j = n := by omega
      have HV : Hid (smI (smB ns) = 1) := by show _ = _; rw [smB_yes (by rw [HL.out]; omega) (fun i d hi => hq.out i d (by rw [← HL.out]; exact hi))]; rfl
      go_wp2_with fail
      go_ret
      exact ⟨by rw [HV.out]; rfl, HB.out.trans (hb.out.mono HB.out.size)⟩
end Go.Proofs.Ytbpcddimnbjoeaa
