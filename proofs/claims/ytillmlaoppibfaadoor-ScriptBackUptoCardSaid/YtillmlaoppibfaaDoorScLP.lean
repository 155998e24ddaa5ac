/- Scripts, plain law: the texts of lives. -/
import Derived.Test.YtillmlaoppibfaaDoorScO
namespace Go.Proofs.YtillmlaoppibfaaDoor
open Go.RowKit
def sx1 : List UInt8 := [115, 116, 111, 114, 101, 32, 49, 32, 50, 32, 49, 32, 49, 32, 49, 10, 112, 105, 99, 107, 32, 48, 32, 51, 10, 105, 110, 115, 101, 114, 116, 32, 48, 32, 55, 32, 49, 32, 48, 32, 45, 53, 10, 115, 101, 97, 114, 99, 104, 32, 48, 32, 48, 32, 50, 32, 48, 32, 57, 10]
def sx2 : List UInt8 := [115, 116, 111, 114, 101, 32, 49, 32, 50, 32, 49, 32, 49, 32, 48, 10]
def sx3 : List UInt8 := [115, 116, 111, 114, 101, 32, 49, 32, 50, 32, 49, 32, 49, 32, 49, 10, 112, 105, 99, 107, 32, 48, 32, 48, 10]
def sx4 : List UInt8 := [115, 116, 111, 114, 101, 32, 49, 32, 50, 32, 49, 32, 49, 32, 49, 10, 112, 105, 99, 107, 32, 48, 32, 49, 10, 112, 105, 99, 107, 32, 48, 32, 49, 10]
def sx5 : List UInt8 := [115, 116, 111, 114, 101, 32, 49, 32, 50, 32, 49, 32, 49, 32, 49]
def cx1 : SCfg := ⟨1, 2, 1, 1, 1⟩
def gx1 : List (SAct × Nat) := [(pickA 0, 3), (⟨0, 1, 7, [-5], 1, 0, 0, 0⟩, 1), (⟨0, 4, 0, [9], 0, 2, 0, 0⟩, 1)]
theorem cfg_hdr_any {c : SCfg} (h1 : 0 ≤ c.dim ∧ c.dim ≤ 4096) (h2 : 0 ≤ c.cap ∧ c.cap ≤ 4096) (h3 : 0 ≤ c.links ∧ c.links ≤ 4096) (h4 : 0 ≤ c.ef ∧ c.ef ≤ 4096) (h5 : 0 ≤ c.wks ∧ c.wks ≤ 4096) : cfgO (splitW (hdrN c)) = some c := by
  rw [hdr_words, split_words (hdr_wd c) (by simp)]
  unfold cfgO c53
  simp only [List.tail_cons, List.headD_cons]
  rw [numO_dec (by omega) (by omega), numO_dec (by omega) (by omega), numO_dec (by omega) (by omega), numO_dec (by omega) (by omega), numO_dec (by omega) (by omega)]
  dsimp only
  rw [if_pos (by simp)]
  obtain ⟨d, p, k, f, x⟩ := c
  simp only at h1 h2 h3 h4 h5 ⊢
  congr 2 <;> omega
theorem hdr_10 (c : SCfg) : (10 : UInt8) ∉ hdrN c := by rw [hdr_words]; exact join_wd (hdr_wd c)
/-- A text behind its first line. -/
theorem prs_hdr {c : SCfg} (hc : chkB c = true) (r : List UInt8) (hl : (hdrN c ++ 10 :: r).length ≤ 65536) : prsO (hdrN c ++ 10 :: r) = joinR c [] (prsL (hdrN c ++ 10 :: r).length (-1) 0 2 r) := by
  have hcut := cut_line 10 (hdrN c) r (hdr_10 c)
  unfold prsO
  rw [if_neg (by omega), hcut]
  dsimp only
  rw [if_neg (by decide), cfg_hdr hc]
  dsimp only
  rw [if_pos hc]
theorem d0 : Lib.decDigits 0 = [48] := Lib.decDigits_one (by omega)
theorem d1 : Lib.decDigits 1 = [49] := Lib.decDigits_one (by omega)
theorem d2 : Lib.decDigits 2 = [50] := Lib.decDigits_one (by omega)
theorem d3 : Lib.decDigits 3 = [51] := Lib.decDigits_one (by omega)
theorem d5 : Lib.decDigits 5 = [53] := Lib.decDigits_one (by omega)
theorem d7 : Lib.decDigits 7 = [55] := Lib.decDigits_one (by omega)
theorem d9 : Lib.decDigits 9 = [57] := Lib.decDigits_one (by omega)
theorem i5 : Lib.itoa (-5) = [45, 53] := by
  unfold Lib.itoa
  rw [if_pos (by decide), show (-5 : Int).natAbs = 5 from rfl, d5]
theorem i9 : Lib.itoa 9 = [57] := by
  unfold Lib.itoa
  rw [if_neg (by decide), show (9 : Int).toNat = 9 from rfl, d9]
theorem hdr1 : hdrN cx1 = sx5 := by
  show storeW ++ tailW [1, 2, 1, 1, 1] = _
  simp only [tailW, d1, d2]
  rfl
theorem hdr2 : hdrN ⟨1, 2, 1, 1, 0⟩ ++ 10 :: [] = sx2 := by
  show (storeW ++ tailW [1, 2, 1, 1, 0]) ++ 10 :: [] = _
  simp only [tailW, d0, d1, d2]
  rfl
theorem txt1 : hdrN cx1 ++ 10 :: textG gx1 = sx1 := by
  rw [hdr1]
  have e : textG gx1 = ((pickW ++ tailW [0, 3]) ++ [10]) ++ (((wordN 1 ++ tailW [0, 7, 1, 0] ++ tailZ [-5]) ++ [10]) ++ (((wordN 4 ++ tailW [0, 0, 2, 0] ++ tailZ [9]) ++ [10]) ++ [])) := rfl
  rw [e]
  simp only [tailW, tailZ, d0, d1, d2, d3, d7, i5, i9]
  rfl
theorem wf1 : WFg (-1) gx1 := by
  refine ⟨⟨by decide, by decide, ⟨by decide, by decide, by decide, by simp [pickA]⟩, .inl ⟨rfl, by decide, by decide⟩⟩, by decide, ⟨by decide, by decide, ⟨by decide, by decide, by decide, by simp⟩, .inr ⟨rfl, by decide⟩⟩, by decide, ⟨by decide, by decide, ⟨by decide, by decide, by decide, by simp⟩, .inr ⟨rfl, by decide⟩⟩, by decide, trivial⟩
theorem prs1 : prsO sx1 = .inr (cx1, gx1) := by
  rw [← txt1, prs_hdr (by decide) _ (by rw [txt1]; decide), prs_text gx1 _ (-1) 0 2 wf1 (by decide) (by rw [txt1]; decide)]
  rfl
theorem prs2 : prsO sx2 = .inl (1, 1) := by
  rw [← hdr2]
  have hcut := cut_line 10 (hdrN ⟨1, 2, 1, 1, 0⟩) [] (hdr_10 _)
  unfold prsO
  rw [if_neg (by rw [hdr2]; decide), hcut]
  dsimp only
  rw [if_neg (by decide), cfg_hdr_any (by decide) (by decide) (by decide) (by decide) (by decide)]
  dsimp only
  rw [if_neg (by decide)]
theorem acts3 : actsO (splitW (lineN (pickA 0, 0))) = none := by
  rw [line_words, split_words (words_wd _) (words_ne _)]
  have e : wordsOf (pickA 0, 0) = [pickW, Lib.decDigits 0, Lib.decDigits 0] := rfl
  rw [e, actsO_0 (by decide)]
  simp only [List.drop_succ_cons, List.drop_zero, List.headD_cons]
  rw [numO_dec (by omega) (by omega), numO_dec (by omega) (by omega)]
  dsimp only
  rw [if_neg (by simp)]
theorem txt3 : hdrN cx1 ++ 10 :: (lineN (pickA 0, 0) ++ 10 :: []) = sx3 := by
  rw [hdr1]
  show sx5 ++ 10 :: ((pickW ++ tailW [0, 0]) ++ 10 :: []) = _
  simp only [tailW, d0]
  rfl
theorem prs3 : prsO sx3 = .inl (2, 12) := by
  rw [← txt3, prs_hdr (by decide) _ (by rw [txt3]; decide)]
  have hcut := cut_line 10 (lineN (pickA 0, 0)) [] (line_10 _)
  obtain ⟨n, hn⟩ : ∃ n, (hdrN cx1 ++ 10 :: (lineN (pickA 0, 0) ++ 10 :: [])).length = n + 1 := ⟨_, by rw [txt3]; rfl⟩
  rw [hn, prsL, if_neg (by simp), hcut]
  dsimp only
  rw [if_neg (by decide), acts3]
  rfl
theorem acts4 : actsO (splitW (lineN (pickA 0, 1))) = some (pickA 0, 1) := by
  rw [line_words, split_words (words_wd _) (words_ne _)]
  exact acts_words ⟨by decide, by decide, ⟨by decide, by decide, by decide, by simp [pickA]⟩, .inl ⟨rfl, by decide, by decide⟩⟩
theorem txt4 : hdrN cx1 ++ 10 :: (lineN (pickA 0, 1) ++ 10 :: (lineN (pickA 0, 1) ++ 10 :: [])) = sx4 := by
  rw [hdr1]
  show sx5 ++ 10 :: ((pickW ++ tailW [0, 1]) ++ 10 :: ((pickW ++ tailW [0, 1]) ++ 10 :: [])) = _
  simp only [tailW, d0, d1]
  rfl
theorem prs4 : prsO sx4 = .inl (3, 11) := by
  rw [← txt4, prs_hdr (by decide) _ (by rw [txt4]; decide)]
  have hcut := cut_line 10 (lineN (pickA 0, 1)) (lineN (pickA 0, 1) ++ 10 :: []) (line_10 _)
  have hcut2 := cut_line 10 (lineN (pickA 0, 1)) [] (line_10 _)
  obtain ⟨n, hn⟩ : ∃ n, (hdrN cx1 ++ 10 :: (lineN (pickA 0, 1) ++ 10 :: (lineN (pickA 0, 1) ++ 10 :: []))).length = n + 2 := ⟨_, by rw [txt4]; rfl⟩
  rw [hn, prsL, if_neg (by simp), hcut]
  dsimp only
  rw [if_neg (by decide), acts4]
  dsimp only
  rw [if_neg (by decide), if_neg (by decide), prsL, if_neg (by simp), hcut2]
  dsimp only
  rw [if_neg (by decide), acts4]
  dsimp only
  rw [if_pos (by decide)]
  rfl
theorem prs5 : prsO sx5 = .inl (1, 12) := by
  unfold prsO
  rw [if_neg (by decide), if_pos (by decide)]
theorem tx1 : txtO cx1 (expand gx1) = (sx1, 0) := (text_back prs1).1
theorem tx2 : txtO cx1 [pickA 65] = ([], 7) := by
  unfold txtO
  rw [if_neg (by decide), if_neg (by decide), if_pos (by decide)]
theorem tx3 : txtO cfg0 [] = ([], 1) := by
  unfold txtO
  rw [if_pos (by decide)]
end Go.Proofs.YtillmlaoppibfaaDoor
