/- TopGuarded: the walk. -/
import Derived.Test.YtoodifpkconfcaaGuB
namespace Go.Proofs.Ytoodifpkconfcaa
open Go.RowKit
section
variable {w0 W W' : World} {d : Option (Nat × Array Value)} {t hb wb xb xs xd N M : Nat} {f g : Int → Option Int} {Q : (Nat → List Int) → (Int → Option (List Int)) → (Int → Option NtR) → Prop} {u : Nat} {n : Int}
theorem gu_take1 (S : GuS w0 W d t hb wb xb xs xd N M (fun _ => none) (fun _ => none) Q) (hu : u < 64) (hn : 0 ≤ n ∧ n ≤ 4096) (hM : M ≤ 1000) :
    Calls Try.prog 18 #[.pointer (some ⟨t, 0, none⟩), .int .i64 ((u : Nat) : Int), .int .i64 n] W (fun e w' => e = .returned (.bool true) ∧ GuS w0 w' d t hb wb xb xs xd N (M + 1) (upO (fun _ => none) n (u : Int)) (fun _ => none) Q) := by
  refine (lk_takeF S.lk (u : Int) n (by omega) hn rfl (fun k c h => by cases h) hM).mono ?_
  rintro e w' ⟨rfl, q1, q2⟩
  rw [delO_none] at q1
  exact ⟨rfl, S.turn q1 q2⟩
theorem gu_take2 (S : GuS w0 W d t hb wb xb xs xd N M (upO (fun _ => none) n (u : Int)) (fun _ => none) Q) (hu : u < 64) (hn : 0 ≤ n ∧ n ≤ 4096) (hM : M ≤ 1000) :
    Calls Try.prog 18 #[.pointer (some ⟨t, 0, none⟩), .int .i64 64, .int .i64 n] W (fun e w' => e = .returned (.bool false) ∧ GuS w0 w' d t hb wb xb xs xd N (M + 1) (upO (fun _ => none) n (u : Int)) (upO (fun _ => none) 64 n) Q) := by
  refine (lk_takeN S.lk 64 n (by omega) hn (upO_self _ _ _) (fun k c h => ?_) hM).mono ?_
  · by_cases e : k = n
    · subst e
      rw [upO_self] at h
      obtain rfl := Option.some.inj h
      omega
    · rw [upO_ne _ e] at h; cases h
  · rintro e w' ⟨rfl, q1, q2⟩
    exact ⟨rfl, S.turn q1 q2⟩
theorem gu_give1 (S : GuS w0 W d t hb wb xb xs xd N M (upO (fun _ => none) n (u : Int)) (upO (fun _ => none) 64 n) Q) (hu : u < 64) (hn : 0 ≤ n ∧ n ≤ 4096) :
    Calls Try.prog 19 #[.pointer (some ⟨t, 0, none⟩), .int .i64 ((u : Nat) : Int), .int .i64 n] W (fun e w' => e = .returned (.bool true) ∧ GuS w0 w' d t hb wb xb xs xd N M (fun _ => none) (upO (fun _ => none) 64 n) Q) := by
  refine (lk_giveF S.lk (u : Int) n (by omega) hn (upO_self _ _ _)).mono ?_
  rintro e w' ⟨rfl, q1, q2⟩
  rw [delO_upO, delO_upO_ne (by omega)] at q1
  exact ⟨rfl, S.turn q1 q2⟩
theorem gu_take3 (S : GuS w0 W d t hb wb xb xs xd N M (fun _ => none) (upO (fun _ => none) 64 n) Q) (hn : 0 ≤ n ∧ n ≤ 4096) (hM : M ≤ 1000) :
    Calls Try.prog 18 #[.pointer (some ⟨t, 0, none⟩), .int .i64 64, .int .i64 n] W (fun e w' => e = .returned (.bool true) ∧ GuS w0 w' d t hb wb xb xs xd N (M + 1) (upO (fun _ => none) n 64) (fun _ => none) Q) := by
  refine (lk_takeF S.lk 64 n (by omega) hn rfl (fun k c h => by cases h) hM).mono ?_
  rintro e w' ⟨rfl, q1, q2⟩
  rw [delO_upO] at q1
  exact ⟨rfl, S.turn q1 q2⟩
theorem gu_give2 (S : GuS w0 W d t hb wb xb xs xd N M (upO (fun _ => none) n 64) (fun _ => none) Q) (hn : 0 ≤ n ∧ n ≤ 4096) :
    Calls Try.prog 19 #[.pointer (some ⟨t, 0, none⟩), .int .i64 64, .int .i64 n] W (fun e w' => e = .returned (.bool true) ∧ GuS w0 w' d t hb wb xb xs xd N M (fun _ => none) (fun _ => none) Q) := by
  refine (lk_giveF S.lk 64 n (by omega) hn (upO_self _ _ _)).mono ?_
  rintro e w' ⟨rfl, q1, q2⟩
  rw [delO_upO, delO_none] at q1
  exact ⟨rfl, S.turn q1 q2⟩
theorem GuS.cell {q : Nat} {kd nn : Int} (S : GuS w0 W (some (q, #[.int .i64 kd, .int .i64 nn])) t hb wb xb xs xd N M f g Q) : W.cell? ⟨q, 0, none⟩ = some (.int .i64 kd) ∧ W.cell? ⟨q, 1, none⟩ = some (.int .i64 nn) := by
  obtain ⟨F, ck, fs, nt, sl, h1, h2, h3, h4, h5, h6, h8, h7⟩ := S
  have h := (h8 _ _ rfl).1
  exact ⟨h.cell 0, h.cell 1⟩
theorem GuS.open_ (S : GuS w0 W none t hb wb xb xs xd N M f g Q) (kd nn : Int) : GuS w0 (W.alloc (.cells #[.int .i64 kd, .int .i64 nn] 39)) (some (W.heap.size, #[.int .i64 kd, .int .i64 nn])) t hb wb xb xs xd N M f g Q := by
  obtain ⟨F, ck, fs, nt, sl, h1, h2, h3, h4, h5, h6, h8, h7⟩ := S
  have hb := bel_boxC W (.cells #[.int .i64 kd, .int .i64 nn] 39)
  refine ⟨F, ck, fs, nt, sl, h1.below hb, h2.below hb, h3, h4, h5, h6.trans (hb.mono h6.size), fun q cs e => ?_, h7⟩
  injection e with e
  injection e with e1 e2
  subst e1; subst e2
  refine ⟨Blk.new _ _ _, fun q => ?_, fun q => ?_⟩
  · have := h2.ltF _ q; omega
  · have := h1.lt
    rcases q with q | q <;> omega
theorem GuS.shut (S : GuS w0 W d t hb wb xb xs xd N M f g Q) : GuS w0 W none t hb wb xb xs xd N M f g Q := by
  obtain ⟨F, ck, fs, nt, sl, h1, h2, h3, h4, h5, h6, h8, h7⟩ := S
  exact ⟨F, ck, fs, nt, sl, h1, h2, h3, h4, h5, h6, fun _ _ e => (by cases e), h7⟩
theorem GuS.skip {i : Nat} (S : GuS w0 W d t hb wb xb xs xd N M f g (GuI i)) : GuS w0 W d t hb wb xb xs xd N M f g (GuI (i + 1)) := by
  obtain ⟨F, ck, fs, nt, sl, h1, h2, h3, h4, h5, h6, h8, h7⟩ := S
  exact ⟨F, ck, fs, nt, sl, h1, h2, h3, h4, h5, h6, h8, h7.skip⟩
theorem gu_start {w1 w2 : World} {t hb wb xb xs xd : Nat} (h1 : LkF w1 t hb wb 0 (fun _ => none) (fun _ => none)) (h4 : w0.heap.size ≤ t ∧ w0.heap.size ≤ hb ∧ w0.heap.size ≤ wb) (hb1 : Below w0.heap.size w0 w1) (h2 : RcS w2 (fun x => x = xb ∨ x = xs ∨ x = xd) xb xs xd (ckJ 65) (fun _ => none) (fun _ => none) (.slice none 0 0) 0 0) (hb2 : Below w1.heap.size w1 w2) (hx : w1.heap.size ≤ xb ∧ w1.heap.size ≤ xs ∧ w1.heap.size ≤ xd) :
    GuS w0 w2 none t hb wb xb xs xd 0 0 (fun _ => none) (fun _ => none) (GuI 0) := by
  have hl := h1.lt
  have hs := hb1.size
  exact ⟨_, _, _, _, _, h1.below hb2, h2, fun k q => (by rcases q with rfl | rfl | rfl <;> omega), h4, ⟨fun q => (by rcases q with rfl | rfl | rfl <;> omega), fun q => (by rcases q with rfl | rfl | rfl <;> omega), fun q => (by rcases q with rfl | rfl | rfl <;> omega)⟩, hb1.trans (hb2.mono hs), fun _ _ e => (by cases e), GuI.start⟩
end
end Go.Proofs.Ytoodifpkconfcaa
