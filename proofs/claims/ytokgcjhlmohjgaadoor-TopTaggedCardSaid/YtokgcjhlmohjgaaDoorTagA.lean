/- A text's parts, by the document. -/
import Derived.Test.YtokgcjhlmohjgaaDoorTagT
namespace Go.Proofs.YtokgcjhlmohjgaaDoor
open Go.RowKit
/-- What stands between the pluses. -/
def splitL : List Int → List (List Int)
  | [] => [[]]
  | c :: r => if c = 43 then [] :: splitL r else (match splitL r with | [] => [[c]] | p :: ps => (c :: p) :: ps)
theorem split_miss : ∀ (s : List Int), (∀ j, j < s.length → ig s j ≠ 43) → splitL s = [s]
  | [], _ => rfl
  | c :: r, h => by
    have h0 : c ≠ 43 := h 0 (by simp)
    have ih := split_miss r fun j hj => h (j + 1) (by simp; omega)
    rw [splitL, if_neg h0, ih]
theorem split_hit : ∀ (s : List Int) (k : Nat), k < s.length → (∀ j, j < k → ig s j ≠ 43) → ig s k = 43 → splitL s = s.take k :: splitL (s.drop (k + 1))
  | [], k, hk, _, _ => by simp at hk
  | c :: r, 0, _, _, e => by
    have e' : c = 43 := e
    rw [splitL, if_pos e']; rfl
  | c :: r, k + 1, hk, h, e => by
    have h0 : c ≠ 43 := h 0 (by omega)
    have ih := split_hit r k (by simpa using hk) (fun j hj => h (j + 1) (by omega)) e
    rw [splitL, if_neg h0, ih]
    rfl
def partsE (s : List Int) : List (List Int) := if s = [] then [] else splitL s
theorem ig_drop (s : List Int) (a j : Nat) : ig (s.drop a) j = ig s (a + j) := by
  simp [ig, List.getD_eq_getElem?_getD, List.getElem?_drop]
/-- Where the document's loop stands. -/
def PInv (s : List Int) (cs : List (List Int)) (fr k : Nat) : Prop :=
  (k ≤ s.length ∧ fr ≤ k ∧ splitL s = cs ++ splitL (s.drop fr) ∧ ∀ q, fr ≤ q → q < k → ig s q ≠ 43) ∨ (k = s.length + 1 ∧ splitL s = cs)
theorem PInv.zero (s : List Int) : PInv s [] 0 0 := .inl ⟨Nat.zero_le _, Nat.le_refl _, rfl, fun q _ h => absurd h (by omega)⟩
theorem PInv.skip {s : List Int} {cs : List (List Int)} {fr k : Nat} (h : PInv s cs fr k) (hk : k < s.length) (he : ig s k ≠ 43) : PInv s cs fr (k + 1) := by
  rcases h with ⟨h1, h2, h3, h4⟩ | ⟨h1, _⟩
  · refine .inl ⟨hk, by omega, h3, fun q a b => ?_⟩
    by_cases e : q = k
    · rw [e]; exact he
    · exact h4 q a (by omega)
  · omega
theorem PInv.cut {s : List Int} {cs : List (List Int)} {fr k : Nat} (h : PInv s cs fr k) (hk : k < s.length) (he : ig s k = 43) : fr ≤ k ∧ PInv s (cs ++ [(s.drop fr).take (k - fr)]) (k + 1) (k + 1) := by
  rcases h with ⟨h1, h2, h3, h4⟩ | ⟨h1, _⟩
  · refine ⟨h2, .inl ⟨hk, Nat.le_refl _, ?_, fun q a b => absurd b (by omega)⟩⟩
    have := split_hit (s.drop fr) (k - fr) (by rw [List.length_drop]; omega) (fun j hj => by rw [ig_drop]; exact h4 _ (by omega) (by omega)) (by rw [ig_drop, show fr + (k - fr) = k by omega]; exact he)
    rw [h3, this, List.drop_drop, show fr + (k - fr + 1) = k + 1 by omega, List.append_assoc]; rfl
  · omega
theorem PInv.last {s : List Int} {cs : List (List Int)} {fr : Nat} (h : PInv s cs fr s.length) : fr ≤ s.length ∧ PInv s (cs ++ [(s.drop fr).take (s.length - fr)]) (s.length + 1) (s.length + 1) := by
  rcases h with ⟨h1, h2, h3, h4⟩ | ⟨h1, _⟩
  · refine ⟨h2, .inr ⟨rfl, ?_⟩⟩
    have := split_miss (s.drop fr) fun j hj => by
      rw [List.length_drop] at hj
      rw [ig_drop]; exact h4 _ (by omega) (by omega)
    rw [h3, this, List.take_of_length_le (by rw [List.length_drop]; exact Nat.le_refl _)]
  · omega
theorem PInv.le {s : List Int} {cs : List (List Int)} {fr k : Nat} (h : PInv s cs fr k) (hk : k ≤ s.length) : fr ≤ k := by
  rcases h with ⟨_, h2, _, _⟩ | ⟨h1, _⟩
  · exact h2
  · omega
theorem PInv.done {s : List Int} {cs : List (List Int)} {fr k : Nat} (h : PInv s cs fr k) (hk : s.length < k) : splitL s = cs := by
  rcases h with ⟨h1, _⟩ | ⟨_, h2⟩
  · omega
  · exact h2
/-- What a call that makes a list of texts says. -/
def RetT (l : List (List Int)) (w : World) (e : Ending) (w' : World) : Prop :=
  (∃ A c, e = .returned (.slice A l.length c) ∧ l.length ≤ c ∧ Rd w' w'.heap.size A l.length (l.map sv)) ∧ Below w.heap.size w w'
set_option maxRecDepth 100000 in
set_option maxHeartbeats 2000000 in
theorem ref_parts (s : List Int) (hs : Bytes s) (hl : s.length ≤ 4194304) (w : World) :
    Calls Tryd.prog 26 #[.string (strOfNums s)] w (RetT (partsE s) w) := by
  by_cases h0 : s = []
  · have e : (strOfNums s).toList = [] := by rw [h0, ByteArray.toList_eq]; rfl
    have hie : (strOfNums s).toList.isEmpty = true := by rw [e]; rfl
    have HP : Hid (partsE s = []) := if_pos h0
    clear e h0
    go_enter Tryd.func26, Tryd.ntmps26
    go_wp2_with fail
    go_ret
    rw [HP.out]
    exact ⟨⟨none, 0, rfl, Nat.le_refl _, Rd.nil_⟩, Below.refl _ _⟩
  · have e' : ((strOfNums s).toList == ([] : List UInt8)) = false := by rw [str_ne s hs]; exact beq_false_of_ne h0
    have hie : (strOfNums s).toList.isEmpty = false := by cases h : (strOfNums s).toList with
      | nil => rw [h] at e'; cases e'
      | cons _ _ => rfl
    have HP : Hid (partsE s = splitL s) := if_neg h0
    have hss := strOfNums_size s
    have HS := Lib.hid hs
    clear hs h0 e'
    go_enter Tryd.func26, Tryd.ntmps26
    go_wp2_with fail
    go_loopw [3, 4, 5] (fun v f i wr => ∃ (k fr n : Nat) (B : Option Addr) (d : Nat) (cs : List (List Int)), k ≤ s.length + 1 ∧ n ≤ k ∧ i = .int .i64 k ∧ f = .int .i64 fr ∧ v = .slice B n d ∧ Hid (PInv s cs fr k) ∧ Hid (wr.ownsRow w.heap.size 9 1 (.slice B n d) n (cs.map sv)) ∧ Hid (Below w.heap.size w wr)) (fun _ _ i _ => s.length + 1 - (intOf i).toNat)
    case atStart => exact ⟨0, 0, 0, none, 0, [], Nat.zero_le _, Nat.le_refl _, rfl, rfl, rfl, PInv.zero s, World.ownsRow_nil _ _ _ _, Below.refl _ _⟩
    case round =>
      obtain ⟨k, fr, n, B, d, cs, hk, hn, rfl, rfl, rfl, hinv, hown, hb⟩ := hrel
      have hown' := hown.out
      have hsz := hb.out.size
      by_cases hle : k ≤ s.length
      · have hfk := hinv.out.le hle
        have hex : (strOfNums s).extract fr k = strOfNums ((s.drop fr).take (k - fr)) := str_extract s fr k
        by_cases hlt : k < s.length
        · have te : ((k : Int) == (s.length : Int)) = false := by simp; omega
          obtain ⟨x, hx⟩ : ∃ x, ig s k = x := ⟨_, rfl⟩
          have hg : ∀ h : k < (strOfNums s).size, (((strOfNums s)[k]'h).toNat : Int) = x := fun h => (str_get s HS.out k h).trans hx
          by_cases hc : x = 43
          · subst hc
            have HI := Lib.hid (hinv.out.cut hlt hx).2
            clear hx
            go_wp2_with (at_builtin; refine wpList_pushV rfl (.tmp 24) (.tmp 29) _ rfl w.heap.size 9 _ 16 (by decide) rfl Tryd.underlying22 info_str wr B n d _ _ rfl rfl hown' rfl (by omega) hsz ?_; intro g' c' w' hown2 hb2)
            have HBB := Lib.hid (hb.out.trans hb2)
            have HO2 := Lib.hid hown2
            go_roundw
            case rel => exact ⟨k + 1, k + 1, n + 1, _, c', _, by omega, by omega, by go_num, by go_num, rfl, HI, (by show World.ownsRow _ _ _ _ _ _ _; rw [List.map_append]; exact HO2.out), HBB⟩
            case measure => simp [intOf]; omega
          · have tc : (x == 43) = false := beq_false_of_ne hc
            have HI := Lib.hid (hinv.out.skip hlt (by rw [hx]; exact hc))
            clear hx hc
            go_wp2_with fail
            go_roundw
            case rel => exact ⟨k + 1, fr, n, B, d, cs, by omega, by omega, by go_num, rfl, rfl, HI, hown, hb⟩
            case measure => simp [intOf]; omega
        · obtain rfl : k = s.length := by omega
          have HI := Lib.hid hinv.out.last.2
          go_wp2_with (at_builtin; refine wpList_pushV rfl (.tmp 24) (.tmp 29) _ rfl w.heap.size 9 _ 16 (by decide) rfl Tryd.underlying22 info_str wr B n d _ _ rfl rfl hown' rfl (by omega) hsz ?_; intro g' c' w' hown2 hb2)
          have HBB := Lib.hid (hb.out.trans hb2)
          have HO2 := Lib.hid hown2
          go_roundw
          case rel => exact ⟨s.length + 1, s.length + 1, n + 1, _, c', _, by omega, by omega, by go_num, by go_num, rfl, HI, (by show World.ownsRow _ _ _ _ _ _ _; rw [List.map_append]; exact HO2.out), HBB⟩
          case measure => simp [intOf]
      · have HE : Hid (partsE s = cs) := by show _ = _; rw [HP.out]; exact hinv.out.done (by omega)
        have hcl : cs.length = n := by have := hown'.1; simpa using this
        have hcap := own_cap hown'
        have hrd := Lib.hid (Rd.of_own hown')
        have hcl' := Lib.hid hcl
        clear hown' hcl
        go_wp2_with fail
        go_ret
        rw [HE.out]
        have h1 := hrd.out
        rw [← hcl'.out] at h1 hcap ⊢
        exact ⟨⟨B, d, rfl, hcap, h1⟩, hb.out⟩
end Go.Proofs.YtokgcjhlmohjgaaDoor
