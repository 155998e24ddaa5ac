/- begins11; changes, in memory. -/
import Derived.Test.YthcmajeamandfaaStP
namespace Go.Proofs.Ythcmajeamandfaa
open Go.RowKit
theorem IdS.lt_all {w : World} {mp sb k N : Nat} {bs : List Nat} {E : List Nm} {ver : Int} (S : IdS w mp sb k N bs E ver) {x : Nat} (hx : idF mp bs x ∨ x = sb) : x < w.heap.size := by
  rcases hx with (rfl | hx) | rfl
  · exact S.m.lt
  · obtain ⟨i, hi⟩ := List.getElem?_of_mem hx
    exact (S.r i x hi).lt
  · exact S.slt
theorem ArS.lt_all {w : World} {ap sb fb n c : Nat} {st gn : Nat → Int} {fr : List Int} {ct : Nat → Int} (S : ArS w ap sb fb n c st gn fr ct) {x : Nat} (hx : arF ap sb fb x) : x < w.heap.size := by
  rcases hx with rfl | rfl | rfl
  · exact S.a.lt
  · obtain ⟨C, h, _⟩ := S.s; exact h.lt
  · exact (S.f.lt x rfl).2
/-- An arena and an id map, apart. -/
structure BtS (w0 w : World) (ap sb fb n c : Nat) (st gn : Nat → Int) (fr : List Int) (ct : Nat → Int) (mp sh K N : Nat) (bs : List Nat) (E : List Nm) (ver : Int) : Prop where
  a : ArS w ap sb fb n c st gn fr ct
  m : IdS w mp sh K N bs E ver
  dj : ∀ x, arF ap sb fb x → ¬ (idF mp bs x ∨ x = sh)
  lo : ∀ x, arF ap sb fb x ∨ idF mp bs x ∨ x = sh → w0.heap.size ≤ x
  b : Below w0.heap.size w0 w
section
variable {w0 w w' : World} {ap sb fb n c : Nat} {st gn : Nat → Int} {fr : List Int} {ct : Nat → Int} {mp sh K N : Nat} {bs : List Nat} {E : List Nm} {ver : Int}
theorem BtS.below (S : BtS w0 w ap sb fb n c st gn fr ct mp sh K N bs E ver) (hb : Below w.heap.size w w') : BtS w0 w' ap sb fb n c st gn fr ct mp sh K N bs E ver :=
  ⟨S.a.below hb, S.m.below hb, S.dj, S.lo, S.b.trans (hb.mono S.b.size)⟩
/-- The arena has turned. -/
theorem BtS.arena {fb' c' : Nat} {st' gn' : Nat → Int} {fr' : List Int} {ct' : Nat → Int} (S : BtS w0 w ap sb fb n c st gn fr ct mp sh K N bs E ver) (hT : Tch (arF ap sb fb) w w') (hA : ArS w' ap sb fb' n c' st' gn' fr' ct') (hf : fb' = fb ∨ w.heap.size ≤ fb') : BtS w0 w' ap sb fb' n c' st' gn' fr' ct' mp sh K N bs E ver := by
  refine ⟨hA, S.m.keep hT (fun x hx => ?_), fun x hx q => ?_, fun x hx => ?_, S.b.trans (hT.below S.b.size (fun x hx => S.lo x (.inl hx)))⟩
  · have := S.dj x hx
    exact ⟨fun e => this (.inl (.inl e)), fun e => this (.inr e), fun e => this (.inl (.inr e))⟩
  · rcases hf with rfl | hf
    · exact S.dj x hx q
    · have hlt := S.m.lt_all q
      rcases hx with hx | hx | hx
      · exact S.dj x (.inl hx) q
      · exact S.dj x (.inr (.inl hx)) q
      · omega
  · rcases hx with hx | hx
    · rcases hx with hx | hx | hx
      · exact S.lo x (.inl (.inl hx))
      · exact S.lo x (.inl (.inr (.inl hx)))
      · rcases hf with rfl | hf
        · exact S.lo x (.inl (.inr (.inr hx)))
        · have := S.b.size; omega
    · exact S.lo x (.inr hx)
/-- The map has turned. -/
theorem BtS.map {N' : Nat} {E' : List Nm} {ver' : Int} (S : BtS w0 w ap sb fb n c st gn fr ct mp sh K N bs E ver) (hT : Tch (idF mp bs) w w') (hM : IdS w' mp sh K N' bs E' ver') : BtS w0 w' ap sb fb n c st gn fr ct mp sh K N' bs E' ver' :=
  ⟨S.a.keep hT (fun x hx q => S.dj x q (.inl hx)), hM, S.dj, S.lo, S.b.trans (hT.below S.b.size (fun x hx => S.lo x (.inr (.inl hx))))⟩
theorem BtS.made (hA : ArS w ap sb fb n c st gn fr ct) (h1 : Below w0.heap.size w0 w) (h2 : ∀ x, arF ap sb fb x → w0.heap.size ≤ x) (hM : IdS w' mp sh K N bs E ver) (h3 : Below w.heap.size w w') (h4 : ∀ x, idF mp bs x ∨ x = sh → w.heap.size ≤ x) : BtS w0 w' ap sb fb n c st gn fr ct mp sh K N bs E ver :=
  ⟨hA.below h3, hM, fun x hx q => by have := hA.lt_all hx; have := h4 x q; omega, fun x hx => by
    rcases hx with q | q
    · exact h2 x q
    · exact Nat.le_trans h1.size (h4 x q), h1.trans (h3.mono h1.size)⟩
end
set_option maxRecDepth 100000 in
set_option maxHeartbeats 4000000 in
theorem begins11_true (w : World) : Calls Try.prog 5 #[] w (fun e w' => e = .returned (.bool true) ∧ Below w.heap.size w w') := by
  have HN := Lib.hid (ar_new 1 (by decide) (by decide) w)
  go_enter Try.func5, Try.ntmps5
  go_upto_region 2 with (go_at_call 12; (refine HN.out.mono ?_); rintro e w1 ⟨ap, sb, fb, rfl, hA1, hb1, hf1⟩; have HA1 := Lib.hid hA1; have HB1 := Lib.hid hb1; have HF1 := Lib.hid hf1; clear hA1 hb1 hf1)
  have HM := Lib.hid (id_new 1 (by decide) (by decide) w1)
  go_upto_region 5 with (go_at_call 6; (refine HM.out.mono ?_); rintro e w2 ⟨mp, sh, bs, rfl, hM2, hb2, hf2⟩; have HM2 := Lib.hid hM2; have HB2 := Lib.hid hb2; have HF2 := Lib.hid hf2; clear hM2 hb2 hf2)
  have hS2 := BtS.made HA1.out HB1.out HF1.out HM2.out HB2.out HF2.out
  have HS2 := Lib.hid hS2
  clear HA1 HB1 HF1 HM2 HB2 HF2 HN HM hS2
  have HL := Lib.hid (ar_alloc (w := w2) (fr := []) 1 HS2.out.a (by decide) (by decide) rfl (by decide) (by decide) (by decide))
  go_upto_region 6 with (first
    | (go_at_call 15; (refine HL.out.mono ?_); rintro e w3 ⟨rfl, hA3, hT3⟩; have HA3 := Lib.hid hA3; have HT3 := Lib.hid hT3; clear hA3 hT3; have SG := ref_put w3 ⟨0, 1, 0⟩; have bG := put_belN w3 (.cells #[.int .i64 0, .int .i64 0] 32) (refC ⟨0, 1, 0⟩).toList; have kG := ref_blk w3 ⟨0, 1, 0⟩; obtain ⟨w4, hw4⟩ : ∃ q, (w3.alloc (.cells #[.int .i64 0, .int .i64 0] 32)).setCells w3.heap.size 0 (refC ⟨0, 1, 0⟩).toList = q := ⟨_, rfl⟩; rw [hw4] at SG bG kG; have BG := Lib.hid bG; have KG := Lib.hid kG; unfold refV at SG; clear bG kG hw4)
    | refine wpList_storeE SG _ _ rfl rfl rfl rfl ?_)
  have hS3 := HS2.out.arena HT3.out HA3.out (.inl rfl)
  have hS4 := hS3.below BG.out
  have hP := id_put hS4.m ⟨5, 1, 0⟩ ⟨by decide, by decide⟩ (by decide) (by decide) (by decide)
  have HS4 := Lib.hid hS4
  have HP := Lib.hid hP
  have c0 : w4.cell? ⟨w3.heap.size, 0, none⟩ = some (.int .i64 1) := KG.out.cell 0
  have c1 : w4.cell? ⟨w3.heap.size, 1, none⟩ = some (.int .i64 0) := KG.out.cell 1
  clear hS3 hS4 hP SG HA3 HT3
  go_wp2_with (first
    | (go_at_call 8; (refine HP.out.mono ?_); rintro e w5 ⟨rfl, hT5, hM5⟩; have HM5 := Lib.hid hM5; have HT5 := Lib.hid hT5; clear hM5 hT5; have HLN := Lib.hid (id_len HM5.out (by decide)))
    | (go_at_call 11; (refine HLN.out.mono ?_); rintro e w6 ⟨rfl, hb6⟩; have HB6 := Lib.hid hb6; clear hb6))
  have hS5 := HS4.out.map HT5.out HM5.out
  have HF := Lib.hid (hS5.b.trans (HB6.out.mono hS5.b.size))
  clear hS5
  go_ret
  exact ⟨rfl, HF.out⟩
end Go.Proofs.Ythcmajeamandfaa
