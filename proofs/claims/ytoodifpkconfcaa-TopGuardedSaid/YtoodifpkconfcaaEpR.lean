/- Lists of pairs of numbers; what is in limbo: Retire. -/
import Derived.Test.YtoodifpkconfcaaEpN
import Derived.Deep.AppendLies
import Derived.Deep.RegionLaw
namespace Go.Proofs.Ytoodifpkconfcaa
open Go.RowKit
/-- A slice of n pairs, flat, is read. -/
def Rd2 (w : World) (B : Nat) (A : Option Addr) (n : Nat) (fl : List Int) : Prop :=
  fl.length = n * 2 ∧ (0 < n → ∃ b o, A = some ⟨b, o, none⟩ ∧ b < B ∧ ∀ k, k < n * 2 → w.cell? ⟨b, o + k, none⟩ = some (.int .i64 (ig fl k)))
theorem Rd2.keep {w w' : World} {B : Nat} {A : Option Addr} {n : Nat} {fl : List Int} (h : Rd2 w B A n fl) (hk : ∀ p : Addr, p.block < B → w'.cell? p = w.cell? p) : Rd2 w' B A n fl := by
  refine ⟨h.1, fun hn => ?_⟩
  obtain ⟨b, o, h1, h2, h3⟩ := h.2 hn
  exact ⟨b, o, h1, h2, fun k hk' => (hk ⟨b, o + k, none⟩ h2).trans (h3 k hk')⟩
theorem Rd2.below {w w' : World} {B : Nat} {A : Option Addr} {n : Nat} {fl : List Int} (h : Rd2 w B A n fl) (hb : Below B w w') : Rd2 w' B A n fl := h.keep fun _ hp => hb.cell hp
theorem Rd2.more {w : World} {B B' : Nat} {A : Option Addr} {n : Nat} {fl : List Int} (h : Rd2 w B A n fl) (hB : B ≤ B') : Rd2 w B' A n fl := by
  refine ⟨h.1, fun hn => ?_⟩
  obtain ⟨b, o, h1, h2, h3⟩ := h.2 hn
  exact ⟨b, o, h1, by omega, h3⟩
theorem Rd2.at_ {w : World} {B : Nat} {A : Option Addr} {n : Nat} {fl : List Int} (h : Rd2 w B A n fl) {k : Nat} (hk : k < n) :
    ∃ b o, A = some ⟨b, o, none⟩ ∧ b < B ∧ w.cell? ⟨b, o + k * 2, none⟩ = some (.int .i64 (ig fl (k * 2))) ∧ w.cell? ⟨b, o + k * 2 + 1, none⟩ = some (.int .i64 (ig fl (k * 2 + 1))) := by
  obtain ⟨b, o, h1, h2, h3⟩ := h.2 (by omega)
  exact ⟨b, o, h1, h2, h3 _ (by omega), by rw [Nat.add_assoc]; exact h3 _ (by omega)⟩
theorem Rd2.of_own {w : World} {base e n c : Nat} {A : Option Addr} {fl : List Int} (h : w.ownsRow base e 2 (.slice A n c) n (fl.map (.int .i64))) : Rd2 w w.heap.size A n fl := by
  refine ⟨by simpa using h.1, fun hn => ?_⟩
  rcases h.2 with ⟨_, h1⟩ | ⟨g, cap, cur, h1, _, h3, _, _, _, h7⟩
  · omega
  · injection h1 with h1 _ _
    refine ⟨g, 0, h1, (Array.getElem?_eq_some_iff.1 h3).1, fun k hk => ?_⟩
    rw [cell_of_row w g (0 + k) cur e (0, 0) h3, Nat.zero_add]
    have hl : fl.length = n * 2 := by simpa using h.1
    have e1 : (cur.toList.take (n * 2))[k]? = (fl.map (Value.int .i64))[k]? := by rw [h7]
    rw [List.getElem?_take_of_lt hk, Array.getElem?_toList] at e1
    rw [e1, List.getElem?_map, List.getElem?_eq_getElem (by omega)]
    simp [ig, List.getD_eq_getElem?_getD, List.getElem?_eq_getElem (show k < fl.length by omega)]
/-- Whether a slot is in limbo. -/
def slotIn (fl : List Int) (n : Nat) (s : Int) : Bool := (List.range n).any fun k => ig fl (k * 2) == s
theorem slotIn_succ (fl : List Int) (n : Nat) (s : Int) : slotIn fl (n + 1) s = (slotIn fl n s || ig fl (n * 2) == s) := by
  simp [slotIn, List.range_succ, List.any_append]
theorem slotIn_mono {fl : List Int} {n m : Nat} {s : Int} (h : slotIn fl n s = true) (hm : n ≤ m) : slotIn fl m s = true := by
  unfold slotIn at *
  rw [List.any_eq_true] at *
  obtain ⟨x, h1, h2⟩ := h
  exact ⟨x, by simp at *; omega, h2⟩
theorem EpAt.lim_ne {w : World} {base : Nat} {p : EpP} {s : EpS} (h : EpAt w base p s) : (Value.slice p.B s.k p.d).ownBlock ≠ some p.g ∧ (Value.slice p.B s.k p.d).ownBlock ≠ some p.gw := by
  rcases h.lim.2 with ⟨h1, _⟩ | ⟨g, cap, cur, h1, _, h3, _⟩
  · rw [h1]; exact ⟨by simp [Value.ownBlock], by simp [Value.ownBlock]⟩
  · rw [h1]
    refine ⟨fun e => ?_, fun e => ?_⟩
    · injection e with e
      simp only at e
      subst e
      have hc := h.clk
      unfold Blk at hc
      rw [hc] at h3
      injection h3 with h3
      injection h3 with _ h3
      exact absurd h3 (by decide)
    · injection e with e
      simp only at e
      subst e
      obtain ⟨rest, hw⟩ := h.wrk
      rw [hw] at h3
      injection h3 with h3
      injection h3 with _ h3
      exact absurd h3 (by decide)
theorem EpAt.retired {W w2 : World} {base : Nat} {p : EpP} {s : EpS} (h : EpAt W base p s) (x : Int) (g cap : Nat) (o : Obj)
    (ho : w2.ownsRow base 128 2 (.slice (some ⟨g, 0, none⟩) (s.k + 1) cap) (s.k + 1) (s.fl.map (.int .i64) ++ [.int .i64 x, .int .i64 s.ep]))
    (hg : (W.drew.alloc o).grownBy w2 (Value.slice p.B s.k p.d).ownBlock) (hat : (Value.slice p.B s.k p.d).ownBlock = some g ∨ g = (W.drew.alloc o).heap.size) :
    w2.cell? ⟨p.g, 2, none⟩ = some (.slice p.B s.k p.d) ∧ w2.frozen? ⟨p.g, 2, none⟩ = false ∧
    EpAt (w2.setCell ⟨p.g, 2, none⟩ (.slice (some ⟨g, 0, none⟩) (s.k + 1) cap)) base { p with B := some ⟨g, 0, none⟩, d := cap } { s with fl := s.fl ++ [x, (s.ep : Int)] } ∧
    Tch p.blk W (w2.setCell ⟨p.g, 2, none⟩ (.slice (some ⟨g, 0, none⟩) (s.k + 1) cap)) ∧
    ∀ k, ({ p with B := some ⟨g, 0, none⟩, d := cap } : EpP).blk k → p.blk k ∨ W.heap.size ≤ k := by
  have h1 : EpAt (W.drew.alloc o) base p s := (h.drewN 1).below ((Below.refl _ _).alloc (Nat.le_refl _) o)
  obtain ⟨n1, n2⟩ := h1.lim_ne
  have c2 : Blk w2 p.g _ _ := h1.clk.grown hg (fun e => n1 e.symm)
  have hl : s.fl.length = s.k * 2 := by simpa using h.lim.1
  have hk : ({ s with fl := s.fl ++ [x, (s.ep : Int)] } : EpS).k = s.k + 1 := by unfold EpS.k; simp
  refine ⟨c2.cell 2, c2.frozen 2, ⟨?_, ?_, ?_, h.gb, h.gwb, h.ne⟩, ?_, ?_⟩
  · rw [hk]
    exact c2.set_ 2 _
  · obtain ⟨rest, hw⟩ := h1.wrk
    refine ⟨rest, (Below.heap_setCell w2 ⟨p.g, 2, none⟩ _ p.gw (by show p.gw ≠ p.g; exact fun e => h.ne e.symm)).trans ((hg.block _ h1.wrk.lt (fun e => n2 e.symm)).trans hw)⟩
  · rw [hk]
    have ho' : w2.ownsRow base 128 2 (.slice (some ⟨g, 0, none⟩) (s.k + 1) cap) (s.k + 1) ((s.fl ++ [x, (s.ep : Int)]).map (.int .i64)) := by simpa using ho
    refine ho'.kept (row := some p.g) ⟨rfl, rfl, rfl, by simp [World.setCell], fun j _ hj => Below.heap_setCell w2 ⟨p.g, 2, none⟩ _ j (by rintro rfl; exact hj rfl)⟩ (Or.inr ?_)
    intro e
    injection e with e
    simp only at e
    subst e
    rcases ho.2 with ⟨q1, _⟩ | ⟨g', cap', cur, q1, _, q3, _⟩
    · cases q1
    · injection q1 with q1
      injection q1 with q1
      injection q1 with q1
      subst q1
      unfold Blk at c2
      rw [c2] at q3
      injection q3 with q3
      injection q3 with _ q3
      exact absurd q3 (by decide)
  · refine Tch.setCell ?_ (Or.inl rfl) _ _
    have hsz : W.heap.size ≤ (W.drew.alloc o).heap.size := ((Below.refl W.heap.size W.drew).alloc (Nat.le_refl _) o).size
    refine ⟨hg.os, hg.tape, hg.output, Nat.le_trans hsz hg.size, fun k hk' hn => ?_⟩
    refine (hg.block k (Nat.lt_of_lt_of_le hk' hsz) ?_).trans (Below.heap_alloc W.drew o k hk')
    intro e
    apply hn
    right; right
    cases hB : p.B with
    | none => rw [hB] at e; cases e
    | some a =>
      rcases h.lim.2 with ⟨q1, _⟩ | ⟨g', cap', cur, q1, _, _⟩
      · rw [hB] at q1; cases q1
      · rw [hB] at q1 e
        injection q1 with q1
        injection q1 with q1
        subst q1
        injection e with e
        simp only at e
        rw [e]
  · rintro k (hk' | hk' | hk')
    · exact Or.inl (Or.inl hk')
    · exact Or.inl (Or.inr (Or.inl hk'))
    · injection hk' with hk'
      injection hk' with hk' _ _
      subst hk'
      rcases hat with hat | hat
      · rcases h.lim.2 with ⟨q1, _⟩ | ⟨g', cap', cur, q1, _, _⟩
        · rw [q1] at hat; cases hat
        · rw [q1] at hat
          injection q1 with q1
          injection hat with hat
          simp only at hat
          subst hat
          exact Or.inl (Or.inr (Or.inr q1))
      · right
        rw [hat]
        exact ((Below.refl W.heap.size W.drew).alloc (Nat.le_refl _) o).size
theorem ref_info : ∃ i z, Try.prog.info? 128 = some i ∧ i.zero = some z ∧ i.size = 2 ∧ i.bytes = 16 ∧ z.cells.size = 2 := by
  have h : (Try.prog.info? 128).map (fun i => (i.zero.map Value.cells, i.size, i.bytes)) = some (some #[.int .i64 0, .int .i64 0], 2, 16) := by kernel_rfl
  obtain ⟨i, hi, hzz⟩ := Option.map_eq_some_iff.1 h
  simp only [Prod.mk.injEq] at hzz
  obtain ⟨hz, hs, hb⟩ := hzz
  obtain ⟨z, hz1, hz2⟩ := Option.map_eq_some_iff.1 hz
  exact ⟨i, z, hi, hz1, hs, hb, by rw [hz2]; rfl⟩
end Go.Proofs.Ytoodifpkconfcaa
