/- A range over a function whose closure keeps one cell of its own: the law for its statement. -/
import Derived.Test.YtokgcjhlmohjgaaDoorTagQ
import Derived.RangeFuncBox
import Derived.RangeFuncLeaves
import Derived.RangeFuncCalls
import Derived.Shelf.Abstract
namespace Go.Proofs.YtokgcjhlmohjgaaDoor
open Go.RowKit Go.Shelf
/-- How a round's body may be left: it goes on, or it returns. -/
def roundOut (B : Nat) (Kp : World → World → Prop) (I : World → Prop) (Ix : World → Prop) (W : World) : Exit → Act → World → Prop
  | .normal, _, W' => KeepsFrom B W W' ∧ Kp W W' ∧ I W'
  | .ret, _, W' => KeepsFrom B W W' ∧ Ix W'
  | _, _, _ => False
/-- What the iterator promises: all N rounds, or it has been told to stop. -/
def Gives (P : Program) (gf : Nat) (lb : Array Value) (enc : Nat → Value) (N b0 : Nat) (Kp : World → World → Prop) (w : World) : Prop :=
  ∀ (l : Nat) (J : Nat → World → Prop) (Jx : World → Prop) (W : World), Below w.heap.size w W → (∀ k W v, J k W → J k (W.setCell ⟨b0, 0, none⟩ v)) →
    (∀ k W1, k < N → J k W1 → YieldAt Fence.wide 1 P l #[enc k] W1 fun e W' => (e = .returned (.bool true) ∧ J (k + 1) W' ∧ Kp W1 W') ∨ (e = .returned (.bool false) ∧ Jx W')) →
    J 0 W → CallsIn Fence.wide 2 P gf (#[.func (.yield l) #[] #[]] ++ lb) W fun e W' => (∃ v, e = .returned v) ∧ (J N W' ∨ Jx W')
theorem range_gives {P : Program} {p : Tmp} {g : Operand} {assign body : Code} {Q : Exit → Act → World → Prop} {a : Act} {w : World} {gf : Nat} {lb : Array Value}
    (hg : a.eval g = .func (.func gf) #[] lb) (eg : ∀ args w, (callFunc gf args).run P w = .ok (.enter gf args) w)
    {enc : Nat → Value} {N b0 : Nat} {Kp : World → World → Prop} (hb0 : b0 < w.heap.size) (hseq : Gives P gf lb enc N b0 Kp w)
    (hKt : ∀ {A B C : World}, Kp A B → Kp B C → Kp A C) (hKb : ∀ (W : World) (l : Nat) (o : Obj), w.heap.size ≤ l → Kp W (W.putObj l o))
    (I : Nat → World → Prop) (Ix : World → Prop)
    (hIs : ∀ k W v, I k W → I k (W.setCell ⟨b0, 0, none⟩ v)) (hIa : ∀ k W o, I k W → I k (W.alloc o))
    (hIp : ∀ k W l o o', w.heap.size ≤ l → W.heap[l]? = some o → o.isCells = false → I k W → I k (W.putObj l o'))
    (hIxp : ∀ W l o o', w.heap.size ≤ l → W.heap[l]? = some o → o.isCells = false → Ix W → Ix (W.putObj l o'))
    (h0 : I 0 w) (a₁ : Nat → Act)
    (hassign : ∀ (l k : Nat) (W : World) (K : Act → World → Prop), K (a₁ k) W → assign.wpIn (Fence.wide.inRound l) 1 P (Exit.then K (fun _ _ _ => False)) { tmps := a.tmps.setIfInBounds p (enc k), defers := [] } W)
    (hbody : ∀ (l k : Nat) (W : World), k < N → I k W → body.wpIn (Fence.wide.inRound l) 1 P (roundOut w.heap.size Kp (I (k + 1)) Ix W) (a₁ k) W)
    (hdone : ∀ (D : Nat) (W : World), w.heap.size ≤ D → I N W → W.heap[D]? = some (.deferred (some [])) → Q .normal { a with defers := { target := .collected D, args := #[] } :: a.defers } W)
    (hstop : ∀ (D : Nat) (W : World), w.heap.size ≤ D → Ix W → W.heap[D]? = some (.deferred (some [])) → Code.ret.wp P Q { a with defers := { target := .collected D, args := #[] } :: a.defers } W) :
    (Code.rangeFunc g #[p] assign body).wp P Q a w := by
  refine (wpIn_wide (n := 3)).1 (wpIn_rangeFunc fun fn hfn => ?_)
  obtain ⟨rec, hrec⟩ : ∃ rec : LoopState → Option Code → Loop, rec = fun st pe => { state := st, pending := pe, fn, tmps := a.tmps, params := #[p], assign, body, defers := w.heap.size } := ⟨_, rfl⟩
  obtain ⟨D, hD⟩ : ∃ D, D = w.heap.size := ⟨_, rfl⟩
  obtain ⟨W1, hW1⟩ : ∃ W1, (w.alloc (.deferred (some []))).alloc (.loop (rec .ready none)) = W1 := ⟨_, rfl⟩
  have hL1 : W1.heap[D + 1]? = some (.loop (rec .ready none)) := by
    have := World.alloc_heap_new (w.alloc (.deferred (some []))) (.loop (rec .ready none))
    rw [World.size_alloc, ← hD, hW1] at this
    exact this
  have hK1 : W1.heap[D]? = some (.deferred (some [])) := by
    rw [← hW1, hD]
    exact (Below.heap_alloc _ _ _ (by simp)).trans (World.alloc_heap_new w _)
  have hB1 : Below w.heap.size w W1 := by rw [← hW1]; exact ((Below.refl _ w).alloc (Nat.le_refl _) _).alloc (by simp) _
  have hI1 : I 0 W1 := by rw [← hW1]; exact hIa _ _ _ (hIa _ _ _ h0)
  refine ⟨D + 1, [{ target := .collected D, args := #[] }], W1, { target := .fn (.func gf) lb, args := #[.func (.yield (D + 1)) #[] #[]] }, W1, gf, #[.func (.yield (D + 1)) #[] #[]] ++ lb, W1, ?_, ?_, fun _ _ => trivial, ?_, fun _ => by decide, ?_⟩
  · have := run_enterLoop_outer (P := P) (w := w) fn a.tmps #[p] assign body
    rw [← hW1, hrec, hD]
    exact this
  · simp only [resolve, hg]
    simp [go_sem]
  · simp [invoke, go_sem, eg]
  · have hlt1 : ∀ {W : World} {st pe}, W.heap[D + 1]? = some (.loop (rec st pe)) → D + 1 < W.heap.size := fun h => (Array.getElem?_eq_some_iff.1 h).1
    have hne0 : D + 1 ≠ b0 := by omega
    have hne1 : D ≠ b0 := by omega
    refine (hseq (D + 1) (fun k W => I k W ∧ W.heap[D + 1]? = some (.loop (rec .ready none)) ∧ W.heap[D]? = some (.deferred (some [])))
      (fun W => Ix W ∧ W.heap[D + 1]? = some (.loop (rec .done (some .ret))) ∧ W.heap[D]? = some (.deferred (some []))) W1 hB1
      (fun k W v h => ⟨hIs k W v h.1, (Below.heap_setCell W _ v _ hne0).trans h.2.1, (Below.heap_setCell W _ v _ hne1).trans h.2.2⟩) ?_ ⟨hI1, hL1, hK1⟩).mono ?_
    · rintro k W hk ⟨hi, hl, hd⟩
      have hlt := hlt1 hl
      have hz : ((#[p] : Array Tmp).zip #[enc k]).foldl (fun (tmps : Array Value) (t, a) => tmps.setIfInBounds t a) a.tmps = a.tmps.setIfInBounds p (enc k) := by simp [Array.zip, Array.zipWith, Array.zipWithMAux]
      have hy : (Instr.yield (D + 1) #[enc k]).run P W = .ok (.round (D + 1) fn (a.tmps.setIfInBounds p (enc k)) assign body) W := by
        have hy := run_yield (P := P) (args := #[enc k]) hl (by rw [hrec]; rfl)
        rw [hrec] at hy
        dsimp only at hy
        rw [hz] at hy
        exact hy
      have hb := run_beginRound (P := P) hl (by rw [hrec])
      obtain ⟨W2, hW2⟩ : ∃ W2, W.putObj (D + 1) (.loop { rec .ready none with state := .busy }) = W2 := ⟨_, rfl⟩
      have hl2 : W2.heap[D + 1]? = some (.loop { rec .ready none with state := .busy }) := by rw [← hW2]; exact World.putObj_heap_same hlt
      have hd2 : W2.heap[D]? = some (.deferred (some [])) := by rw [← hW2]; exact (World.putObj_heap_other (by omega)).trans hd
      have hi2 : I k W2 := by rw [← hW2]; exact hIp k W _ _ _ (by omega) hl rfl hi
      have hkp2 : Kp W W2 := by rw [← hW2]; exact hKb W _ _ (by omega)
      rw [hW2] at hb
      refine ⟨fn, _, assign, body, hy, roundIn_of_wpIn hfn ?_⟩
      refine hassign (D + 1) k W _ ?_
      refine ⟨W2, hb, wpIn_mono (hbody (D + 1) k W2 hk hi2) ?_⟩
      have fin : ∀ (jump : Option Code) (W3 : World), KeepsFrom w.heap.size W2 W3 →
          (Instr.endRound (D + 1) jump).run P W3 = .ok (.bool jump.isNone) (W3.putObj (D + 1) (.loop (rec (if jump.isNone then .ready else .done) jump))) ∧
          W3.heap[D + 1]? = some (.loop { rec .ready none with state := .busy }) ∧
          (W3.putObj (D + 1) (.loop (rec (if jump.isNone then .ready else .done) jump))).heap[D + 1]? = some (.loop (rec (if jump.isNone then .ready else .done) jump)) ∧
          (W3.putObj (D + 1) (.loop (rec (if jump.isNone then .ready else .done) jump))).heap[D]? = some (.deferred (some [])) := fun jump W3 hk3 => by
        have hl3 := hk3.same _ _ (by omega) hl2 rfl
        have hr := run_endRound (P := P) jump hl3
        rw [hrec] at hr hl3 ⊢
        exact ⟨hr, hl3, World.putObj_heap_same (Array.getElem?_eq_some_iff.1 hl3).1, (World.putObj_heap_other (by omega)).trans (hk3.same _ _ (by omega) hd2 rfl)⟩
      rintro e a3 W3 hp
      cases e with
      | normal =>
        obtain ⟨hk3, hkp3, hi3⟩ := hp
        obtain ⟨hr, hl3, hl4, hd4⟩ := fin none W3 hk3
        exact ⟨_, _, hr, .inl ⟨rfl, ⟨hIp _ _ _ _ _ (by omega) hl3 rfl hi3, hl4, hd4⟩, hKt (hKt hkp2 hkp3) (hKb _ _ _ (by omega))⟩⟩
      | ret =>
        obtain ⟨hk3, hi3⟩ := hp
        obtain ⟨hr, hl3, hl4, hd4⟩ := fin (some .ret) W3 hk3
        exact ⟨_, _, hr, .inr ⟨rfl, hIxp _ _ _ _ (by omega) hl3 rfl hi3, hl4, hd4⟩⟩
      | exit id => exact hp.elim
      | goto t => exact hp.elim
      | panic ch => exact hp.elim
      | outgrown => exact hp.elim
    · rintro e W2 ⟨⟨v, rfl⟩, (⟨hi, hl, hd⟩ | ⟨hi, hl, hd⟩)⟩
      · have hr := run_endLoop (P := P) hl (by rw [hrec]; simp)
        refine ⟨none, _, by rw [hrec] at hr; exact hr, ?_⟩
        exact hdone D _ (by omega) (hIp _ _ _ _ _ (by omega) hl rfl hi) ((World.putObj_heap_other (by omega)).trans hd)
      · have hr := run_endLoop (P := P) hl (by rw [hrec]; simp)
        refine ⟨some .ret, _, by rw [hrec] at hr; exact hr, ?_⟩
        exact (wpIn_wide (n := 3)).2 (hstop D _ (by omega) (hIxp _ _ _ _ (by omega) hl rfl hi) ((World.putObj_heap_other (by omega)).trans hd))
end Go.Proofs.YtokgcjhlmohjgaaDoor
