/- Scripts: words split, lines cut, by the program. -/
import Derived.Test.YtillmlaoppibfaaDoorScV
namespace Go.Proofs.YtillmlaoppibfaaDoor
open Go.RowKit Go.Sort
/-- A line's words. -/
def splitW (l : List UInt8) : List (List UInt8) := Lib.split l [32]
theorem splitK_len (sep : List UInt8) : ∀ (f : Nat) (s : List UInt8), (Lib.splitK sep 0 (Lib.countFrom sep f s) s).length = Lib.countFrom sep f s + 1
  | 0, s => rfl
  | f + 1, s => by
    unfold Lib.countFrom
    by_cases h : (Lib.index s sep == -1) = true
    · rw [if_pos h]
      rfl
    · rw [if_neg h, Nat.add_comm 1, Lib.splitK, if_neg h, List.length_cons, splitK_len sep f]
theorem splitK_word (sep : List UInt8) : ∀ (k : Nat) (s : List UInt8), ∀ x ∈ Lib.splitK sep 0 k s, x.length ≤ s.length
  | 0, s, x, hx => by
    rw [Lib.splitK, List.mem_singleton] at hx
    rw [hx]
    exact Nat.le_refl _
  | k + 1, s, x, hx => by
    rw [Lib.splitK] at hx
    split at hx
    · rw [List.mem_singleton.1 hx]; exact Nat.le_refl _
    · rcases List.mem_cons.1 hx with rfl | hx
      · exact List.length_take_le' _ _
      · exact Nat.le_trans (splitK_word sep k _ x hx) (by rw [List.length_drop]; omega)
theorem splitK_many (sep : List UInt8) (hsep : 0 < sep.length) : ∀ (f : Nat) (s : List UInt8), Lib.countFrom sep f s ≤ s.length
  | 0, s => Nat.zero_le _
  | f + 1, s => by
    unfold Lib.countFrom
    split
    · exact Nat.zero_le _
    · rename_i h
      have h1 := splitK_many sep hsep f (s.drop ((Lib.index s sep).toNat + sep.length))
      rw [List.length_drop] at h1
      by_cases hs : s.length = 0
      · have : s = [] := List.length_eq_zero_iff.1 hs
        subst this
        exfalso
        apply h
        unfold Lib.index
        rw [if_neg (by cases sep with | nil => simp at hsep | cons => simp)]
        rfl
      · omega
theorem splitW_len (l : List UInt8) : (splitW l).length ≤ l.length + 1 := by
  unfold splitW Lib.split Lib.count
  rw [splitK_len]
  have := splitK_many [32] (by decide) (l.length + 1) l
  omega
theorem splitW_word {l x : List UInt8} (h : x ∈ splitW l) : x.length ≤ l.length := splitK_word _ _ _ x h
/-- strings.Split(l, " "). -/
theorem sc_split (l : List UInt8) (hl : l.length ≤ 65536) (w : World) (he : Env w) :
    Calls Tryd.prog 35 #[.string ⟨l.toArray⟩, .string ⟨#[32]⟩] w fun e w' => e = .returned (.slice (some ⟨w.heap.size, 0, none⟩) (splitW l).length (splitW l).length) ∧ w' = w.alloc (.cells ((splitW l).map wv).toArray 9) := by
  obtain ⟨m, hm⟩ := he.ml
  have hs : (⟨l.toArray⟩ : ByteArray).size = l.length := by simp [ByteArray.size]
  have hd := Lib.splitB_data ⟨#[32]⟩ 0 (Lib.countB ⟨l.toArray⟩ ⟨#[32]⟩) ⟨l.toArray⟩
  have hc : Lib.countB ⟨l.toArray⟩ ⟨#[32]⟩ = Lib.count l [32] := rfl
  have hcl : Lib.count l [32] + 1 = (splitW l).length := (splitK_len [32] (l.length + 1) l).symm
  have hmap : (Lib.splitB ⟨#[32]⟩ 0 (Lib.countB ⟨l.toArray⟩ ⟨#[32]⟩) ⟨l.toArray⟩).map Value.string = (splitW l).map wv := by
    have e : splitW l = (Lib.splitB ⟨#[32]⟩ 0 (Lib.countB ⟨l.toArray⟩ ⟨#[32]⟩) ⟨l.toArray⟩).map (·.data.toList) := hd.symm
    rw [e, List.map_map]
    refine List.map_congr_left fun x _ => ?_
    simp [wv]
  refine (sh_strings_Split ⟨l.toArray⟩ ⟨#[32]⟩ m w (by rw [hs]; omega) hm (by decide)).mono ?_
  rintro e w' ⟨rfl, rfl⟩
  rw [hc, hcl, ← hmap, hc]
  exact ⟨rfl, rfl⟩
/-- strings.Cut(s, "\n"). -/
theorem sc_cut (s : List UInt8) (hl : s.length ≤ 65536) (w : World) (he : Env w) :
    Calls Tryd.prog 15 #[.string ⟨s.toArray⟩, .string ⟨#[10]⟩] w fun e w' => e = .returned (.tuple #[.string ⟨(Lib.cut s [10]).1.toArray⟩, .string ⟨(Lib.cut s [10]).2.1.toArray⟩, .bool (Lib.cut s [10]).2.2]) ∧ Below w.heap.size w w' := by
  obtain ⟨m, hm⟩ := he.ml
  have hs : (⟨s.toArray⟩ : ByteArray).size = s.length := by simp [ByteArray.size]
  refine (sh_strings_Cut ⟨s.toArray⟩ ⟨#[10]⟩ m w (by rw [hs]; omega) hm).mono ?_
  rintro e w' ⟨rfl, n, rfl⟩
  exact ⟨rfl, below_drewN (Below.refl _ w) n⟩
/-- A taker's beginning. -/
theorem TkS.begin (l : List UInt8) (w : World) (h8 : 8 ≤ w.heap.size) : TkS ((w.alloc (.cells ((splitW l).map wv).toArray 9)).alloc (.cells #[.slice (some ⟨w.heap.size, 0, none⟩) (splitW l).length (splitW l).length, .bool false] 84)) (w.heap.size + 1) (splitW l) false := by
  have hsz : (w.alloc (.cells ((splitW l).map wv).toArray 9)).heap.size = w.heap.size + 1 := by show (w.heap.push _).size = _; rw [Array.size_push]
  refine ⟨by omega, some ⟨w.heap.size, 0, none⟩, (splitW l).length, (splitW l).length, ?_, Nat.le_refl _, by simp, fun _ => ⟨w.heap.size, 0, rfl, by omega, fun k u hu => ?_⟩⟩
  · have := Blk.new (w.alloc (.cells ((splitW l).map wv).toArray 9)) 84 #[.slice (some ⟨w.heap.size, 0, none⟩) (splitW l).length (splitW l).length, .bool false]
    rwa [hsz] at this
  · have := (Blk.new w 9 ((splitW l).map wv).toArray).alloc (.cells #[.slice (some ⟨w.heap.size, 0, none⟩) (splitW l).length (splitW l).length, .bool false] 84)
    rw [Nat.zero_add, this.cell, List.getElem?_toArray]
    exact hu
/-- A taker, where another block above it is written. -/
theorem TkS.far {w w' : World} {b p : Nat} {ws : List (List UInt8)} {bad : Bool} (h : TkS w b ws bad) (hg : w.grownBy w' (some p)) (hb : b < p) : TkS w' b ws bad := by
  have hlt := h.lt
  obtain ⟨h8, A, n, c, h1, h2, h3⟩ := h
  refine ⟨h8, A, n, c, h1.grown hg (fun e => by injection e with e; omega), h2, h3.keep fun q hq => ?_⟩
  have := hg.block q.block (by omega) (fun e => by injection e with e; omega)
  simp [World.cell?, this]
end Go.Proofs.YtillmlaoppibfaaDoor
