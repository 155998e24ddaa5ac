/- Two id maps, apart; changes, in memory. -/
import Derived.Test.YthcmajeamandfaaStA
namespace Go.Proofs.Ythcmajeamandfaa
open Go.RowKit
structure Ch where
  drop : Bool
  id : Int
def chC (d : Ch) : Array Value := #[.bool d.drop, .int .u64 d.id]
def chV (d : Ch) : Value := .agg #[.bool d.drop, .int .u64 d.id]
/-- A slice of changes. -/
def ChAt (w : World) (B : Nat) (A : Option Addr) (n : Nat) (l : List Ch) : Prop := Rs w B A n 2 (l.map fun d => (chC d).toList)
theorem chTN : (Try.prog.info? 30).map (·.size) = some 2 := by kernel_rfl
theorem ch_load {w : World} {b o : Nat} {d : Ch} (h : w.rangeAt b o (chC d).toList) : (Instr.loadAt 30 (.pointer (some ⟨b, o, none⟩))).run Try.prog w = .ok (chV d) w := range_load (xs := chC d) h Try.underlying30 rfl chTN
theorem ChAt.at_ {w : World} {B : Nat} {A : Option Addr} {n : Nat} {l : List Ch} (h : ChAt w B A n l) {i : Nat} (hi : i < n) : ∃ b o d, A = some ⟨b, o, none⟩ ∧ b < B ∧ d ∈ l ∧ w.rangeAt b (o + i * 2) (chC d).toList := by
  obtain ⟨b, o, c, e, hb, hc, _, hr⟩ := Rs.at_ h hi
  rw [List.getElem?_map] at hc
  obtain ⟨d, hd, rfl⟩ := Option.map_eq_some_iff.1 hc
  exact ⟨b, o, d, e, hb, List.mem_of_getElem? hd, hr⟩
theorem ch_put (W : World) (d : Ch) : (Instr.storeAt 30 (.pointer (some ⟨W.heap.size, 0, none⟩)) (chV d)).run Try.prog (W.alloc (.cells #[.bool false, .int .u64 0] 30)) = .ok () ((W.alloc (.cells #[.bool false, .int .u64 0] 30)).setCells W.heap.size 0 (chC d).toList) :=
  row_store (Blk.new W 30 #[.bool false, .int .u64 0]) (chC d) rfl chTN (by simp [chC, Value.oneCell'])
theorem ch_blk (W : World) (d : Ch) : Blk ((W.alloc (.cells #[.bool false, .int .u64 0] 30)).setCells W.heap.size 0 (chC d).toList) W.heap.size 30 (chC d) := (Blk.new W 30 #[.bool false, .int .u64 0]).put _ rfl
/-- Two id maps, apart. -/
structure TwS (w0 w : World) (mp sb K : Nat) (bs : List Nat) (mq sc L : Nat) (cs : List Nat) (N : Nat) (E : List Nm) (ver : Int) : Prop where
  a : IdS w mp sb K N bs E ver
  c : IdS w mq sc L N cs E ver
  dj : ∀ x, (idF mp bs x ∨ x = sb) → ¬ (idF mq cs x ∨ x = sc)
  lo : ∀ x, (idF mp bs x ∨ x = sb) ∨ (idF mq cs x ∨ x = sc) → w0.heap.size ≤ x
  b : Below w0.heap.size w0 w
section
variable {w0 w w' w'' : World} {mp sb K : Nat} {bs : List Nat} {mq sc L : Nat} {cs : List Nat} {N : Nat} {E : List Nm} {ver : Int}
theorem TwS.below (S : TwS w0 w mp sb K bs mq sc L cs N E ver) (hb : Below w.heap.size w w') : TwS w0 w' mp sb K bs mq sc L cs N E ver :=
  ⟨S.a.below hb, S.c.below hb, S.dj, S.lo, S.b.trans (hb.mono S.b.size)⟩
theorem TwS.made (hA : IdS w mp sb K N bs E ver) (h1 : Below w0.heap.size w0 w) (h2 : ∀ x, idF mp bs x ∨ x = sb → w0.heap.size ≤ x) (hM : IdS w' mq sc L N cs E ver) (h3 : Below w.heap.size w w') (h4 : ∀ x, idF mq cs x ∨ x = sc → w.heap.size ≤ x) : TwS w0 w' mp sb K bs mq sc L cs N E ver :=
  ⟨hA.below h3, hM, fun x hx q => by have := hA.lt_all hx; have := h4 x q; omega, fun x hx => by
    rcases hx with q | q
    · exact h2 x q
    · exact Nat.le_trans h1.size (h4 x q), h1.trans (h3.mono h1.size)⟩
theorem idS_other (S : IdS w mq sc L N cs E ver) (hT : Tch (idF mp bs) w w') (hd : ∀ x, (idF mp bs x ∨ x = sb) → ¬ (idF mq cs x ∨ x = sc)) : IdS w' mq sc L N cs E ver :=
  S.keep hT (fun x hx => ⟨fun e => hd x (.inl hx) (.inl (.inl e)), fun e => hd x (.inl hx) (.inr e), fun e => hd x (.inl hx) (.inl (.inr e))⟩)
/-- Both turn. -/
theorem TwS.both {N' : Nat} {E' : List Nm} {ver' : Int} (S : TwS w0 w mp sb K bs mq sc L cs N E ver) (h1 : Tch (idF mp bs) w w') (hA : IdS w' mp sb K N' bs E' ver') (h2 : Tch (idF mq cs) w' w'') (hB : IdS w'' mq sc L N' cs E' ver') : TwS w0 w'' mp sb K bs mq sc L cs N' E' ver' :=
  ⟨idS_other hA h2 (mp := mq) (bs := cs) (sb := sc) (fun x hx q => S.dj x q hx), hB, S.dj, S.lo, by
    have b1 := h1.below S.b.size (fun x hx => S.lo x (.inl (.inl hx)))
    exact (S.b.trans b1).trans (h2.below (Nat.le_trans S.b.size b1.size) (fun x hx => S.lo x (.inr (.inl hx))))⟩
end
end Go.Proofs.Ythcmajeamandfaa
