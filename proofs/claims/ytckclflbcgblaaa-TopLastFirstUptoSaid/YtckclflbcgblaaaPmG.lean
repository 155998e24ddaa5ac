/- Planes of the call's own: what may be written, and what lies apart. -/
import Derived.Test.YtckclflbcgblaaaPmF
namespace Go.Proofs.Ytckclflbcgblaaa
open Go.RowKit Go.Maps Go.ChangeMaps Go.MapKept
/-- A node but for its row of lists, in blocks of S. -/
def NdS (w : World) (S : Nat → Prop) (d : ND) : Prop := d.vec.AtS w S .i32 ∧ (d.LA = none → d.ln = 0 ∧ d.lc = 0) ∧ d.ln ≤ 1048576 ∧ d.ls.length = d.ln ∧ (∀ l ∈ d.ls, l.AtS w S .i64) ∧
  ((Lit.int .u64 d.id).wf = true ∧ (Lit.int .i64 d.level).wf = true ∧ (Lit.int .i64 d.next).wf = true ∧ (Lit.int .i64 d.prev).wf = true ∧ ∀ l ∈ d.ls, l.n ≤ l.c)
theorem NdS.mono {w : World} {S S' : Nat → Prop} {d : ND} (h : NdS w S d) (hS : ∀ b, S b → S' b) : NdS w S' d := ⟨h.1.mono hS, h.2.1, h.2.2.1, h.2.2.2.1, fun l hl => (h.2.2.2.2.1 l hl).mono hS, h.2.2.2.2.2⟩
theorem NdS.tch {w w' : World} {S W : Nat → Prop} {d : ND} (h : NdS w S d) (hT : Tch W w w') (hS : ∀ b, S b → b < w.heap.size ∧ ¬ W b) : NdS w' S d := ⟨h.1.tch hT hS, h.2.1, h.2.2.1, h.2.2.2.1, fun l hl => (h.2.2.2.2.1 l hl).tch hT hS, h.2.2.2.2.2⟩
/-- A plane whose nodes lie in block g, of the call's own; of the first m nodes the rows of lists are of the call's own too. W: what may be written. -/
structure OwnP (w : World) (B g c m : Nat) (W : Nat → Prop) (hl : Nat → Nat) (ns : List ND) : Prop where
  row : Rw w g 49 (c * 7) (flat ns)
  cap : ns.length ≤ c ∧ c ≤ maxLen
  small : ns.length ≤ 1048576
  wg : W g
  wB : ∀ k, W k → k < w.heap.size
  gB : B ≤ g
  nd : ∀ (i : Nat) (d : ND), ns[i]? = some d → NdS w (fun k => k < w.heap.size ∧ ¬ W k) d
  own : ∀ (i : Nat) (d : ND), ns[i]? = some d → i < m → 0 < d.ln → d.LA = some ⟨hl i, 0, none⟩ ∧ W (hl i) ∧ (hl i ≠ g ∧ B ≤ hl i) ∧ d.ln ≤ d.lc ∧ Rw w (hl i) 23 (d.lc * 1) (d.ls.map IS.v)
  old : ∀ (i : Nat) (d : ND), ns[i]? = some d → m ≤ i → RdS w (fun k => k < w.heap.size ∧ ¬ W k) d.LA d.ln (d.ls.map IS.v)
  inj : ∀ (i j : Nat) (d d' : ND), ns[i]? = some d → ns[j]? = some d' → i < m → j < m → 0 < d.ln → 0 < d'.ln → hl i = hl j → i = j
theorem rs_of_rd {w : World} {S : Nat → Prop} {B : Nat} {A : Option Addr} {n : Nat} {ls : List IS} (h : RdS w S A n (ls.map IS.v)) (hS : ∀ b, S b → b < B) : Rs w B A n 1 (ls.map fun l => [l.v]) := by
  refine ⟨by simpa using h.1, by simp, fun h0 => ?_⟩
  obtain ⟨b, o, e, hb, hc⟩ := h.2 h0
  refine ⟨b, o, e, hS b hb, fun i c hi j v hv => ?_⟩
  rw [List.getElem?_map, Option.map_eq_some_iff] at hi
  obtain ⟨l, hl, rfl⟩ := hi
  cases j with
  | zero =>
    rw [Nat.mul_one, Nat.add_zero]
    injection hv with hv
    subst hv
    exact hc i _ (by rw [List.getElem?_map, hl]; rfl)
  | succ j => cases hv
theorem OwnP.node {w : World} {B g c m : Nat} {W : Nat → Prop} {hl : Nat → Nat} {ns : List ND} (h : OwnP w B g c m W hl ns) {i : Nat} {d : ND} (hd : ns[i]? = some d) : d.At w w.heap.size := by
  have hn := h.nd i d hd
  refine ⟨hn.1.at_ fun b hb => hb.1, hn.2.1, hn.2.2.1, ?_, fun l hl => (hn.2.2.2.2.1 l hl).at_ fun b hb => hb.1, hn.2.2.2.2.2⟩
  by_cases hm : i < m
  · refine ⟨by simpa using hn.2.2.2.1, by simp, fun h0 => ?_⟩
    obtain ⟨e, hW, _, _, hr⟩ := h.own i d hd hm h0
    refine ⟨hl i, 0, e, hr.lt, fun j c hj k v hv => ?_⟩
    rw [List.getElem?_map, Option.map_eq_some_iff] at hj
    obtain ⟨l, hlj, rfl⟩ := hj
    cases k with
    | zero =>
      injection hv with hv
      subst hv
      rw [Nat.zero_add, Nat.mul_one, Nat.add_zero]
      exact hr.cell (by rw [List.getElem?_map, hlj]; rfl)
    | succ k => cases hv
  · exact rs_of_rd (h.old i d hd (by omega)) fun b hb => hb.1
theorem OwnP.pg {w : World} {B g c m : Nat} {W : Nat → Prop} {hl : Nat → Nat} {ns : List ND} (h : OwnP w B g c m W hl ns) : PgAt w w.heap.size (some ⟨g, 0, none⟩) ns.length c ns := by
  refine ⟨fun e => (by cases e), h.small, ⟨by simp, cells7 ns, fun _ => ⟨g, 0, rfl, h.row.lt, fun i c hi j v hv => ?_⟩⟩, fun d hd => ?_⟩
  · rw [List.getElem?_map, Option.map_eq_some_iff] at hi
    obtain ⟨d, hd, rfl⟩ := hi
    rw [Nat.zero_add]
    have hj : j < 7 := (List.getElem?_eq_some_iff.1 hv).1
    exact h.row.cell (by rw [flat_get2 hd j hj]; exact hv)
  · obtain ⟨i, hi, rfl⟩ := List.mem_iff_getElem.1 hd
    exact h.node (List.getElem?_eq_getElem hi)
theorem OwnP.below {w w' : World} {B g c m : Nat} {W : Nat → Prop} {hl : Nat → Nat} {ns : List ND} (h : OwnP w B g c m W hl ns) (hb : Below w.heap.size w w') : OwnP w' B g c m W hl ns := by
  have hT : Tch (fun _ => False) w w' := Tch.of_below hb
  have hsz := hb.size
  refine ⟨h.row.at_ (hb.block _ h.row.lt), h.cap, h.small, h.wg, fun k hk => Nat.lt_of_lt_of_le (h.wB k hk) hsz, h.gB, fun i d hd => ?_, fun i d hd hm h0 => ?_, fun i d hd hm => ?_, h.inj⟩
  · exact ((h.nd i d hd).tch hT fun b hb => ⟨hb.1, fun h => h⟩).mono fun b hb => ⟨Nat.lt_of_lt_of_le hb.1 hsz, hb.2⟩
  · obtain ⟨e, hW, hg, hc, hr⟩ := h.own i d hd hm h0
    exact ⟨e, hW, hg, hc, hr.at_ (hb.block _ hr.lt)⟩
  · exact ((h.old i d hd hm).tch hT fun b hb => ⟨hb.1, fun h => h⟩).mono fun b hb => ⟨Nat.lt_of_lt_of_le hb.1 hsz, hb.2⟩
/-- At the start. -/
theorem OwnP.start {w w' : World} {A A' : Option Addr} {n c c' B B0 : Nat} {ns : List ND} (hg : PgAt w B0 A n c ns) (h00 : B0 ≤ w.heap.size) (hn : 0 < n) (hB : w.heap.size ≤ B) (ho : w'.ownsRow B 49 7 (.slice A' n c') n (flat ns)) (hb : Below w.heap.size w w') :
    ∃ g, A' = some ⟨g, 0, none⟩ ∧ OwnP w' B g c' 0 (fun k => B0 ≤ k ∧ k < w'.heap.size) (fun _ => 0) ns := by
  obtain ⟨g, e, hBg, hc, hm, hr⟩ := Rw.of_own ho hn
  have hl := hg.len
  have hsz := hb.size
  have hT : Tch (fun _ => False) w w' := Tch.of_below hb
  have hS : ∀ b, b < B0 → b < w'.heap.size ∧ ¬ (B0 ≤ b ∧ b < w'.heap.size) := fun b hb => ⟨by omega, by omega⟩
  refine ⟨g, e, hr, ⟨by omega, hm⟩, by have := hg.2.1; omega, ⟨by omega, hr.lt⟩, fun k hk => hk.2, hBg, fun i d hd => ?_, fun i d hd h0 => absurd h0 (by omega), fun i d hd _ => ?_, fun i j d d' _ _ h0 => absurd h0 (by omega)⟩
  · have hda := hg.2.2.2 d (List.mem_of_getElem? hd)
    have hn2 : NdS w (· < B0) d := ⟨hda.1.s, hda.2.1, hda.2.2.1, hda.len, fun l hl => (hda.2.2.2.2.1 l hl).s, hda.2.2.2.2.2⟩
    exact (hn2.tch hT fun b hb => ⟨by omega, fun h => h⟩).mono hS
  · have hda := hg.2.2.2 d (List.mem_of_getElem? hd)
    have hrd : RdS w (· < B0) d.LA d.ln (d.ls.map IS.v) := by
      refine ⟨by simpa using hda.2.2.2.1.1, fun h0 => ?_⟩
      obtain ⟨b, o, e, hb, hcc⟩ := hda.2.2.2.1.2.2 h0
      refine ⟨b, o, e, hb, fun j u hu => ?_⟩
      rw [List.getElem?_map, Option.map_eq_some_iff] at hu
      obtain ⟨l, hlj, rfl⟩ := hu
      have := hcc j [l.v] (by rw [List.getElem?_map, hlj]; rfl) 0 l.v rfl
      rwa [Nat.mul_one, Nat.add_zero] at this
    exact (hrd.tch hT fun b hb => ⟨by omega, fun h => h⟩).mono hS
/-- A block that is not the nodes' nor a row of lists is written. -/
theorem OwnP.off {w w' : World} {B g c m x : Nat} {W : Nat → Prop} {hl : Nat → Nat} {ns : List ND} (h : OwnP w B g c m W hl ns) (hT : Tch (fun k => k = x) w w') (hw : W x) (hx : x < B) : OwnP w' B g c m W hl ns := by
  have hsz := hT.size
  have hS : ∀ b, b < w.heap.size ∧ ¬ W b → b < w.heap.size ∧ ¬ b = x := fun b hb => ⟨hb.1, fun e => hb.2 (e ▸ hw)⟩
  have hm : ∀ b, b < w.heap.size ∧ ¬ W b → b < w'.heap.size ∧ ¬ W b := fun b hb => ⟨by omega, hb.2⟩
  have hgB := h.gB
  refine ⟨h.row.at_ (hT.block _ h.row.lt (by omega)), h.cap, h.small, h.wg, fun k hk => Nat.lt_of_lt_of_le (h.wB k hk) hsz, h.gB, fun i d hd => ?_, fun i d hd hm h0 => ?_, fun i d hd hj => ?_, h.inj⟩
  · exact ((h.nd i d hd).tch hT hS).mono hm
  · obtain ⟨e, hW, hg, hc, hr⟩ := h.own i d hd hm h0
    exact ⟨e, hW, hg, hc, hr.at_ (hT.block _ hr.lt (by omega))⟩
  · exact ((h.old i d hd hj).tch hT hS).mono hm
/-- A node is changed, and its row of lists is not. -/
theorem OwnP.same {w w' : World} {B g c m : Nat} {W : Nat → Prop} {hl : Nat → Nat} {ns : List ND} (h : OwnP w B g c m W hl ns) (hT : Tch (fun k => k = g) w w') {i : Nat} {d d' : ND} (hd : ns[i]? = some d)
    (hr : Rw w' g 49 (c * 7) (flat (ns.set i d'))) (hL : d'.LA = d.LA ∧ d'.ln = d.ln ∧ d'.lc = d.lc ∧ d'.ls = d.ls)
    (hn : NdS w' (fun k => k < w'.heap.size ∧ ((k < w.heap.size ∧ ¬ W k) ∨ w.heap.size ≤ k)) d') : OwnP w' B g c m W hl (ns.set i d') := by
  have hsz := hT.size
  have hS : ∀ b, b < w.heap.size ∧ ¬ W b → b < w.heap.size ∧ ¬ b = g := fun b hb => ⟨hb.1, fun e => hb.2 (e ▸ h.wg)⟩
  have hm : ∀ b, b < w.heap.size ∧ ¬ W b → b < w'.heap.size ∧ ¬ W b := fun b hb => ⟨by omega, hb.2⟩
  have key : ∀ (j : Nat) (e : ND), (ns.set i d')[j]? = some e → ∃ e0, ns[j]? = some e0 ∧ e.LA = e0.LA ∧ e.ln = e0.ln ∧ e.lc = e0.lc ∧ e.ls = e0.ls := by
    intro j e he
    by_cases hj : i = j
    · subst hj
      rw [List.getElem?_set_self (List.getElem?_eq_some_iff.1 hd).1] at he
      injection he with he
      subst he
      exact ⟨d, hd, hL.1, hL.2.1, hL.2.2.1, hL.2.2.2⟩
    · rw [List.getElem?_set_ne hj] at he
      exact ⟨e, he, rfl, rfl, rfl, rfl⟩
  refine ⟨hr, by rw [List.length_set]; exact h.cap, by rw [List.length_set]; exact h.small, h.wg, fun k hk => Nat.lt_of_lt_of_le (h.wB k hk) hsz, h.gB, fun j e he => ?_, fun j e he hj h0 => ?_, fun j e he hj => ?_, fun j k e e' he he' hj hk h0 h0' => ?_⟩
  · by_cases hj : i = j
    · subst hj
      rw [List.getElem?_set_self (List.getElem?_eq_some_iff.1 hd).1] at he
      injection he with he
      subst he
      refine hn.mono fun b hb => ⟨hb.1, ?_⟩
      rcases hb.2 with h1 | h1
      · exact h1.2
      · intro hw; have := h.wB b hw; omega
    · rw [List.getElem?_set_ne hj] at he
      exact ((h.nd j e he).tch hT hS).mono hm
  · obtain ⟨e0, he0, e1, e2, e3, e4⟩ := key j e he
    rw [e2] at h0
    obtain ⟨a1, a2, a3, a4, a5⟩ := h.own j e0 he0 hj h0
    rw [e1, e2, e3, e4]
    exact ⟨a1, a2, a3, a4, a5.at_ (hT.block _ a5.lt a3.1)⟩
  · obtain ⟨e0, he0, e1, e2, e3, e4⟩ := key j e he
    rw [e1, e2, e4]
    exact ((h.old j e0 he0 hj).tch hT hS).mono hm
  · obtain ⟨f, hf, _, f2, _⟩ := key j e he
    obtain ⟨f', hf', _, f2', _⟩ := key k e' he'
    exact h.inj j k f f' hf hf' hj hk (by omega) (by omega)
/-- A node is changed, with a new row of lists. -/
theorem OwnP.step {w w' : World} {B g c m m' : Nat} {W : Nat → Prop} {hl : Nat → Nat} {ns : List ND} (h : OwnP w B g c m W hl ns) (hT : Tch (fun k => k = g) w w') {i : Nat} {d' : ND} (hi : i < ns.length) (hm : m' = m ∨ m' = m + 1 ∧ i = m) (him : i < m')
    (hB : B ≤ w.heap.size) (hr : Rw w' g 49 (c * 7) (flat (ns.set i d')))
    (hn : NdS w' (fun k => k < w'.heap.size ∧ ((k < w.heap.size ∧ ¬ W k) ∨ w.heap.size ≤ k ∧ d'.LA ≠ some ⟨k, 0, none⟩)) d')
    (ho : 0 < d'.ln → ∃ x, d'.LA = some ⟨x, 0, none⟩ ∧ w.heap.size ≤ x ∧ d'.ln ≤ d'.lc ∧ Rw w' x 23 (d'.lc * 1) (d'.ls.map IS.v)) :
    ∃ W' hl', OwnP w' B g c m' W' hl' (ns.set i d') ∧ ∀ k, W k → W' k := by
  have hsz := hT.size
  have hgl := h.row.lt
  have hS : ∀ b, b < w.heap.size ∧ ¬ W b → b < w.heap.size ∧ ¬ b = g := fun b hb => ⟨hb.1, fun e => hb.2 (e ▸ h.wg)⟩
  obtain ⟨x, hx, hxl⟩ : ∃ x, (0 < d'.ln → d'.LA = some ⟨x, 0, none⟩ ∧ w.heap.size ≤ x ∧ d'.ln ≤ d'.lc ∧ Rw w' x 23 (d'.lc * 1) (d'.ls.map IS.v)) ∧ (¬ 0 < d'.ln → x = g) := by
    by_cases h0 : 0 < d'.ln
    · obtain ⟨x, hx⟩ := ho h0
      exact ⟨x, fun _ => hx, fun h => absurd h0 h⟩
    · exact ⟨g, fun h => absurd h h0, fun _ => rfl⟩
  clear ho
  have hxw : ∀ k, k < w.heap.size → ¬ W k → ¬ (W k ∨ k = x) := by
    rintro k hk hw (h1 | rfl)
    · exact hw h1
    · by_cases h0 : 0 < d'.ln
      · have := (hx h0).2.1; omega
      · exact hw (by rw [hxl h0]; exact h.wg)
  have hm2 : ∀ b, b < w.heap.size ∧ ¬ W b → b < w'.heap.size ∧ ¬ (W b ∨ b = x) := fun b hb => ⟨by omega, hxw b hb.1 hb.2⟩
  refine ⟨fun k => W k ∨ k = x, fun j => if j = i then x else hl j, ⟨hr, by rw [List.length_set]; exact h.cap, by rw [List.length_set]; exact h.small, .inl h.wg, ?_, h.gB, fun j e he => ?_, fun j e he hj h0 => ?_, fun j e he hj => ?_, fun j k e e' he he' hj hk h0 h0' hh => ?_⟩, fun k hk => .inl hk⟩
  · rintro k (hk | rfl)
    · exact Nat.lt_of_lt_of_le (h.wB k hk) hsz
    · by_cases h0 : 0 < d'.ln
      · exact (hx h0).2.2.2.lt
      · rw [hxl h0]; omega
  · by_cases hj : i = j
    · subst hj
      rw [List.getElem?_set_self hi] at he
      injection he with he
      subst he
      refine hn.mono fun b hb => ⟨hb.1, ?_⟩
      rcases hb.2 with h1 | h1
      · exact hxw b h1.1 h1.2
      · rintro (hw | rfl)
        · have := h.wB b hw; omega
        · by_cases h0 : 0 < d'.ln
          · exact h1.2 (hx h0).1
          · have := hxl h0; omega
    · rw [List.getElem?_set_ne hj] at he
      exact ((h.nd j e he).tch hT hS).mono hm2
  · by_cases hj2 : i = j
    · subst hj2
      rw [List.getElem?_set_self hi] at he
      injection he with he
      subst he
      obtain ⟨a1, a2, a3, a4⟩ := hx h0
      simp only [if_true]
      exact ⟨a1, .inr trivial, ⟨by omega, by omega⟩, a3, a4⟩
    · rw [List.getElem?_set_ne hj2] at he
      obtain ⟨a1, a2, a3, a4, a5⟩ := h.own j e he (by omega) h0
      simp only [if_neg (Ne.symm hj2)]
      exact ⟨a1, .inl a2, a3, a4, a5.at_ (hT.block _ a5.lt a3.1)⟩
  · have hj2 : i ≠ j := by omega
    rw [List.getElem?_set_ne hj2] at he
    exact ((h.old j e he (by omega)).tch hT hS).mono hm2
  · by_cases hji : i = j
    · by_cases hki : i = k
      · omega
      · exfalso
        subst hji
        rw [List.getElem?_set_ne hki] at he'
        rw [List.getElem?_set_self hi] at he
        injection he with he
        subst he
        simp only [if_true, if_neg (Ne.symm hki)] at hh
        have h1 := (hx h0).2.1
        have h2 := (h.own k e' he' (by omega) h0').2.2.2.2.lt
        omega
    · by_cases hki : i = k
      · exfalso
        subst hki
        rw [List.getElem?_set_ne hji] at he
        rw [List.getElem?_set_self hi] at he'
        injection he' with he'
        subst he'
        simp only [if_true, if_neg (Ne.symm hji)] at hh
        have h1 := (hx h0').2.1
        have h2 := (h.own j e he (by omega) h0).2.2.2.2.lt
        omega
      · rw [List.getElem?_set_ne hji] at he
        rw [List.getElem?_set_ne hki] at he'
        simp only [if_neg (Ne.symm hji), if_neg (Ne.symm hki)] at hh
        exact h.inj j k e e' he he' (by omega) (by omega) h0 h0' hh
/-- A node's list is another one. -/
theorem OwnP.setList {w w' : World} {B g c m : Nat} {W : Nat → Prop} {hl : Nat → Nat} {ns : List ND} (h : OwnP w B g c m W hl ns) (hb : Below w.heap.size w w') {i k : Nat} {d : ND} (hd : ns[i]? = some d) (hm : i < m) (hk : k < d.ln)
    (l : IS) (hal : l.AtS w' (fun k => w.heap.size ≤ k ∧ k < w'.heap.size) .i64) (hcap : l.n ≤ l.c) : OwnP (w'.setCell ⟨hl i, k, none⟩ l.v) B g c m W hl (ns.set i { d with ls := d.ls.set k l }) := by
  have h1 := h.below hb
  have hsz := hb.size
  have hil := (List.getElem?_eq_some_iff.1 hd).1
  obtain ⟨b1, b2, b3, b4, b5⟩ := h1.own i d hd hm (by omega)
  have hT : Tch (fun q => q = hl i) w' (w'.setCell ⟨hl i, k, none⟩ l.v) := Tch.setCell (S := fun q => q = hl i) (Tch.refl _ _) rfl _ _
  have hS : ∀ b, b < w'.heap.size ∧ ¬ W b → b < w'.heap.size ∧ ¬ b = hl i := fun b hb => ⟨hb.1, fun e => hb.2 (e ▸ b2)⟩
  have hsz2 : (w'.setCell ⟨hl i, k, none⟩ l.v).heap.size = w'.heap.size := by simp [World.setCell]
  have hfl : flat (ns.set i { d with ls := d.ls.set k l }) = flat ns := by
    unfold flat
    congr 1
    rw [List.map_set]
    refine List.ext_getElem? fun q => ?_
    by_cases hq : i = q
    · subst hq
      rw [List.getElem?_set_self (by rw [List.length_map]; exact hil), List.getElem?_map, hd]; rfl
    · rw [List.getElem?_set_ne hq]
  have key : ∀ (j : Nat) (e : ND), (ns.set i { d with ls := d.ls.set k l })[j]? = some e → ∃ e0, ns[j]? = some e0 ∧ e.LA = e0.LA ∧ e.ln = e0.ln ∧ e.lc = e0.lc := by
    intro j e he
    by_cases hj : i = j
    · subst hj
      rw [List.getElem?_set_self hil] at he
      injection he with he
      subst he
      exact ⟨d, hd, rfl, rfl, rfl⟩
    · rw [List.getElem?_set_ne hj] at he
      exact ⟨e, he, rfl, rfl, rfl⟩
  refine ⟨by rw [hfl]; exact h1.row.at_ (Below.heap_setCell _ _ _ _ (Ne.symm b3.1)), by rw [List.length_set]; exact h1.cap, by rw [List.length_set]; exact h1.small, h1.wg, fun q hq => by rw [hsz2]; exact h1.wB q hq, h1.gB, fun j e he => ?_, fun j e he hj h0 => ?_, fun j e he hj => ?_, fun j q e e' he he' hj hq h0 h0' hh => ?_⟩
  · rw [hsz2]
    by_cases hj : i = j
    · subst hj
      rw [List.getElem?_set_self hil] at he
      injection he with he
      subst he
      have hn := (h1.nd i d hd).tch hT hS
      have hal2 : l.AtS (w'.setCell ⟨hl i, k, none⟩ l.v) (fun k => w.heap.size ≤ k ∧ k < w'.heap.size) .i64 := hal.tch hT fun b hb => ⟨hb.2, by have := h.wB _ b2; omega⟩
      have hmem : ∀ l' ∈ d.ls.set k l, l' = l ∨ l' ∈ d.ls := fun l' hl' => (List.mem_or_eq_of_mem_set hl').symm
      refine ⟨hn.1, hn.2.1, hn.2.2.1, by simpa using hn.2.2.2.1, fun l' hl' => ?_, hn.2.2.2.2.2.1, hn.2.2.2.2.2.2.1, hn.2.2.2.2.2.2.2.1, hn.2.2.2.2.2.2.2.2.1, fun l' hl' => ?_⟩
      · rcases hmem l' hl' with rfl | hl'
        · exact hal2.mono fun b hb => ⟨hb.2, fun hw => by have := h.wB b hw; omega⟩
        · exact hn.2.2.2.2.1 l' hl'
      · rcases hmem l' hl' with rfl | hl'
        · exact hcap
        · exact hn.2.2.2.2.2.2.2.2.2 l' hl'
    · rw [List.getElem?_set_ne hj] at he
      exact (h1.nd j e he).tch hT hS
  · by_cases hj2 : i = j
    · subst hj2
      rw [List.getElem?_set_self hil] at he
      injection he with he
      subst he
      refine ⟨b1, b2, b3, b4, ?_⟩
      show Rw _ _ _ _ ((d.ls.set k l).map IS.v)
      rw [List.map_set]
      exact b5.set_ k l.v
    · rw [List.getElem?_set_ne hj2] at he
      obtain ⟨a1, a2, a3, a4, a5⟩ := h1.own j e he hj h0
      exact ⟨a1, a2, a3, a4, a5.at_ (Below.heap_setCell _ _ _ _ fun q => hj2 (h1.inj i j d e hd he hm hj (by omega) h0 q.symm))⟩
  · rw [hsz2]
    have hj2 : i ≠ j := by omega
    rw [List.getElem?_set_ne hj2] at he
    exact (h1.old j e he hj).tch hT hS
  · obtain ⟨f, hf, _, f2, _⟩ := key j e he
    obtain ⟨f', hf', _, f2', _⟩ := key q e' he'
    exact h1.inj j q f f' hf hf' hj hq (by omega) (by omega) hh
/-- A node more, in the same row or in a new one. -/
theorem OwnP.append {w w' : World} {B g g' c c' m : Nat} {W : Nat → Prop} {hl : Nat → Nat} {ns : List ND} (h : OwnP w B g c m W hl ns) (hT : Tch (fun k => k = g) w w') (hg : g' = g ∨ w.heap.size ≤ g') (hB : B ≤ w.heap.size)
    (hr : Rw w' g' 49 (c' * 7) (flat (ns ++ [nd0]))) (hc : ns.length + 1 ≤ c' ∧ c' ≤ maxLen) (hs : ns.length + 1 ≤ 1048576) (hm : m = ns.length) : ∃ W', OwnP w' B g' c' (ns.length + 1) W' hl (ns ++ [nd0]) ∧ ∀ k, W k → W' k := by
  have hsz := hT.size
  have hS : ∀ b, b < w.heap.size ∧ ¬ W b → b < w.heap.size ∧ ¬ b = g := fun b hb => ⟨hb.1, fun e => hb.2 (e ▸ h.wg)⟩
  have hm2 : ∀ b, b < w.heap.size ∧ ¬ W b → b < w'.heap.size ∧ ¬ (W b ∨ b = g') := by
    rintro b ⟨h1, h2⟩
    refine ⟨by omega, ?_⟩
    rintro (h3 | rfl)
    · exact h2 h3
    · rcases hg with rfl | hg
      · exact h2 h.wg
      · omega
  have key : ∀ (j : Nat) (e : ND), (ns ++ [nd0])[j]? = some e → (ns[j]? = some e ∧ j < ns.length) ∨ e = nd0 := by
    intro j e he
    rw [List.getElem?_append] at he
    split at he
    · rename_i hj; exact .inl ⟨he, hj⟩
    · right
      cases hq : j - ns.length with
      | zero => rw [hq] at he; injection he with he; exact he.symm
      | succ q => rw [hq] at he; cases he
  have hgB := h.gB
  refine ⟨fun k => W k ∨ k = g', ⟨hr, by simpa using hc, by simpa using hs, .inr rfl, ?_, ?_, fun j e he => ?_, fun j e he hj h0 => ?_, fun j e he hj => ?_, fun j k e e' he he' hj hk h0 h0' hh => ?_⟩, fun k hk => .inl hk⟩
  · rintro k (hk | rfl)
    · exact Nat.lt_of_lt_of_le (h.wB k hk) hsz
    · exact hr.lt
  · rcases hg with rfl | hg
    · exact hgB
    · omega
  · rcases key j e he with ⟨h1, _⟩ | rfl
    · exact ((h.nd j e h1).tch hT hS).mono hm2
    · exact ⟨⟨fun _ => ⟨rfl, rfl⟩, Nat.zero_le _, ⟨rfl, fun h => absurd h (by decide)⟩, (fun x hx => by cases hx)⟩, fun _ => ⟨rfl, rfl⟩, Nat.zero_le _, rfl, (fun l hl => by cases hl), rfl, rfl, rfl, rfl, (fun l hl => by cases hl)⟩
  · rcases key j e he with ⟨h1, h2⟩ | rfl
    · obtain ⟨a1, a2, a3, a4, a5⟩ := h.own j e h1 (by omega) h0
      have := a5.lt
      refine ⟨a1, .inl a2, ⟨?_, a3.2⟩, a4, a5.at_ (hT.block _ a5.lt a3.1)⟩
      rcases hg with rfl | hg
      · exact a3.1
      · omega
    · exact absurd h0 (by decide)
  · exfalso
    have := (List.getElem?_eq_some_iff.1 he).1
    rw [List.length_append, List.length_singleton] at this
    omega
  · rcases key j e he with ⟨h1, h2⟩ | rfl
    · rcases key k e' he' with ⟨h3, h4⟩ | rfl
      · exact h.inj j k e e' h1 h3 (by omega) (by omega) h0 h0' hh
      · exact absurd h0' (by decide)
    · exact absurd h0 (by decide)
end Go.Proofs.Ytckclflbcgblaaa
