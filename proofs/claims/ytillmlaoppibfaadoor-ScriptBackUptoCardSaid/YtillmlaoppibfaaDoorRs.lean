/- Slices of structs: element by element, as ranges of cells. -/
import Derived.Test.YtillmlaoppibfaaDoorRow
namespace Go.Proofs.YtillmlaoppibfaaDoor
open Go.RowKit
/-- A slice of structs of sz cells each. -/
def Rs (w : World) (B : Nat) (A : Option Addr) (n sz : Nat) (cs : List (List Value)) : Prop :=
  cs.length = n ∧ (∀ c ∈ cs, c.length = sz) ∧ (0 < n → ∃ b o, A = some ⟨b, o, none⟩ ∧ b < B ∧ ∀ i c, cs[i]? = some c → w.rangeAt b (o + i * sz) c)
section
variable {w w' : World} {B B' : Nat} {A : Option Addr} {n sz : Nat} {cs : List (List Value)}
theorem rangeAt_keep {b o : Nat} {c : List Value} (h : w.rangeAt b o c) (hk : ∀ j, w'.cell? ⟨b, j, none⟩ = w.cell? ⟨b, j, none⟩) : w'.rangeAt b o c := fun j v hv => (hk _).trans (h j v hv)
theorem Rs.nil_ : Rs w B none 0 sz [] := ⟨rfl, by simp, fun h => absurd h (by omega)⟩
theorem Rs.len (h : Rs w B A n sz cs) : cs.length = n := h.1
theorem Rs.keep (h : Rs w B A n sz cs) (hk : ∀ p : Addr, p.block < B → w'.cell? p = w.cell? p) : Rs w' B A n sz cs :=
  ⟨h.1, h.2.1, fun hn => by obtain ⟨b, o, e, hb, hc⟩ := h.2.2 hn; exact ⟨b, o, e, hb, fun i c hi => rangeAt_keep (hc i c hi) fun j => hk _ hb⟩⟩
theorem Rs.more (h : Rs w B A n sz cs) (hB : B ≤ B') : Rs w B' A n sz cs :=
  ⟨h.1, h.2.1, fun hn => by obtain ⟨b, o, e, hb, hc⟩ := h.2.2 hn; exact ⟨b, o, e, by omega, hc⟩⟩
theorem Rs.below (h : Rs w B A n sz cs) (hb : Below B w w') : Rs w' B A n sz cs := h.keep fun _ hp => hb.cell hp
theorem Rs.drewN (h : Rs w B A n sz cs) (k : Nat) : Rs (w.drewN k) B A n sz cs := h
theorem Rs.at_ (h : Rs w B A n sz cs) {i : Nat} (hi : i < n) : ∃ b o c, A = some ⟨b, o, none⟩ ∧ b < B ∧ cs[i]? = some c ∧ c.length = sz ∧ w.rangeAt b (o + i * sz) c := by
  obtain ⟨b, o, e, hb, hc⟩ := h.2.2 (by omega)
  have hl : i < cs.length := by rw [h.1]; exact hi
  exact ⟨b, o, cs[i], e, hb, List.getElem?_eq_getElem hl, h.2.1 _ (List.getElem_mem hl), hc i _ (List.getElem?_eq_getElem hl)⟩
end
/-- The cells of a list of structs, one behind the other. -/
theorem flat_len {sz : Nat} : ∀ (css : List (List Value)), (∀ c ∈ css, c.length = sz) → css.flatten.length = css.length * sz
  | [], _ => by simp
  | c :: css, h => by
    rw [List.flatten_cons, List.length_append, flat_len css (fun c' hc => h c' (List.mem_cons_of_mem _ hc)), h c (List.mem_cons_self ..), List.length_cons, Nat.add_mul]
    omega
theorem flat_get {sz : Nat} : ∀ (css : List (List Value)), (∀ c ∈ css, c.length = sz) → ∀ (i j : Nat) (c : List Value), css[i]? = some c → j < sz → css.flatten[i * sz + j]? = c[j]?
  | [], _, i, j, c, hi, _ => by simp at hi
  | d :: css, h, 0, j, c, hi, hj => by
    simp only [List.getElem?_cons_zero, Option.some.injEq] at hi
    subst hi
    rw [List.flatten_cons, Nat.zero_mul, Nat.zero_add, List.getElem?_append_left (by rw [h d (List.mem_cons_self ..)]; exact hj)]
  | d :: css, h, i + 1, j, c, hi, hj => by
    have hd := h d (List.mem_cons_self ..)
    rw [List.getElem?_cons_succ] at hi
    rw [List.flatten_cons, List.getElem?_append_right (by rw [hd, Nat.add_mul]; omega), hd, show (i + 1) * sz + j - sz = i * sz + j by rw [Nat.add_mul]; omega]
    exact flat_get css (fun c' hc => h c' (List.mem_cons_of_mem _ hc)) i j c hi hj
theorem flat_at {sz : Nat} (hz : 0 < sz) (css : List (List Value)) (h : ∀ c ∈ css, c.length = sz) {k : Nat} {u : Value} (hk : css.flatten[k]? = some u) : ∃ c, css[k / sz]? = some c ∧ c[k % sz]? = some u := by
  have hl : k < css.length * sz := by rw [← flat_len css h]; exact (List.getElem?_eq_some_iff.1 hk).1
  have hi : k / sz < css.length := Nat.div_lt_of_lt_mul (by rw [Nat.mul_comm]; exact hl)
  refine ⟨css[k / sz], List.getElem?_eq_getElem hi, ?_⟩
  rw [← flat_get css h (k / sz) (k % sz) _ (List.getElem?_eq_getElem hi) (Nat.mod_lt _ hz), Nat.div_add_mod' k sz]
  exact hk
theorem Rs.flat {w : World} {B : Nat} {A : Option Addr} {n sz : Nat} {cs : List (List Value)} (h : Rs w B A n sz cs) (hz : 0 < sz) (hn : 0 < n) :
    ∃ b o, A = some ⟨b, o, none⟩ ∧ b < B ∧ ∀ j u, cs.flatten[j]? = some u → w.cell? (Addr.add ⟨b, o, none⟩ j) = some u := by
  obtain ⟨b, o, e, hb, hc⟩ := h.2.2 hn
  refine ⟨b, o, e, hb, fun j u hj => ?_⟩
  obtain ⟨c, h1, h2⟩ := flat_at hz cs h.2.1 hj
  rw [Addr.add_lit]
  have := hc _ c h1 _ _ h2
  rwa [Nat.add_assoc, Nat.div_add_mod'] at this
/-- A row of the call's own, as a slice of structs. -/
theorem Rs.of_own {w : World} {base e sz n : Nat} {v : Value} {css : List (List Value)} (h : w.ownsRow base e sz v n css.flatten) (hl : ∀ c ∈ css, c.length = sz) (hn : css.length = n) (h0 : 0 < n) :
    ∃ g cap, v = .slice (some ⟨g, 0, none⟩) n cap ∧ base ≤ g ∧ g < w.heap.size ∧ Rs w w.heap.size (some ⟨g, 0, none⟩) n sz css := by
  rcases h.2 with ⟨_, e0⟩ | ⟨g, cap, cur, ev, hg, hh, _, _, _, ht⟩
  · omega
  · have hb : Blk w g e cur := hh
    refine ⟨g, cap, ev, hg, hb.lt, hn, hl, fun _ => ⟨g, 0, rfl, hb.lt, fun i c hi j u hu => ?_⟩⟩
    have hj : j < sz := by rw [← hl c (List.mem_of_getElem? hi)]; exact (List.getElem?_eq_some_iff.1 hu).1
    have hf := flat_get css hl i j c hi hj
    rw [hu, ← ht, List.getElem?_take] at hf
    split at hf
    · rw [hb.cell, Nat.zero_add, ← Array.getElem?_toList, hf]
    · simp at hf
/-- A struct, read out of a range. -/
theorem range_load {P : Program} {w : World} {b o : Nat} {xs : Array Value} (h : w.rangeAt b o xs.toList) {ty : TypeId} {d : TypeDesc}
    (hu : P.underlying ty = some d) (hd : d.isRow = true) (hi : (P.info? ty).map (·.size) = some xs.size) :
    (Instr.loadAt ty (.pointer (some ⟨b, o, none⟩))).run P w = .ok (.agg xs) w := by
  have := run_loadAt_mid (P := P) w b o ty xs.toList d h hu hd (by simpa using hi)
  simpa using this
theorem range_cell {w : World} {b o : Nat} {c : List Value} (h : w.rangeAt b o c) (j : Nat) {v : Value} (hv : c[j]? = some v) : w.cell? ⟨b, o + j, none⟩ = some v := h j v hv
end Go.Proofs.YtillmlaoppibfaaDoor
