/- Planes of the call's own; New, Put. -/
import Derived.Test.YtckclflbcgblaaaPmEF
import Derived.Laws.OwnMore
import Derived.Deep.AppendLies
namespace Go.Proofs.Ytckclflbcgblaaa
open Go.RowKit Go.Maps Go.ChangeMaps Go.MapKept
/-- A node but for its row of lists, in blocks of S. -/
def NdS (w : World) (S : Nat → Prop) (d : ND) : Prop := d.vec.AtS w S .i32 ∧ (d.LA = none → d.ln = 0 ∧ d.lc = 0) ∧ d.ln ≤ 1048576 ∧ d.ls.length = d.ln ∧ (∀ l ∈ d.ls, l.AtS w S .i64) ∧
  ((Lit.int .u64 d.id).wf = true ∧ (Lit.int .i64 d.level).wf = true ∧ (Lit.int .i64 d.next).wf = true ∧ (Lit.int .i64 d.prev).wf = true ∧ ∀ l ∈ d.ls, l.n ≤ l.c)
theorem NdS.mono {w : World} {S S' : Nat → Prop} {d : ND} (h : NdS w S d) (hS : ∀ b, S b → S' b) : NdS w S' d := ⟨h.1.mono hS, h.2.1, h.2.2.1, h.2.2.2.1, fun l hl => (h.2.2.2.2.1 l hl).mono hS, h.2.2.2.2.2⟩
theorem NdS.tch {w w' : World} {S W : Nat → Prop} {d : ND} (h : NdS w S d) (hT : Tch W w w') (hS : ∀ b, S b → b < w.heap.size ∧ ¬ W b) : NdS w' S d := ⟨h.1.tch hT hS, h.2.1, h.2.2.1, h.2.2.2.1, fun l hl => (h.2.2.2.2.1 l hl).tch hT hS, h.2.2.2.2.2⟩
/-- A plane whose nodes lie in block g, of the call's own; of the first m nodes the rows of lists are of the call's own too. W: what may be written. -/
structure OwnP (w : World) (B g c m : Nat) (W : Nat → Prop) (hl : Nat → Nat) (ns : List ND) : Prop where
  row : Rw w g 49 (c * 7) (flat ns)
  cap : ns.length ≤ c ∧ c ≤ maxLen
  small : ns.length ≤ 1048576
  wg : W g
  wB : ∀ k, W k → k < w.heap.size
  gB : B ≤ g
  nd : ∀ (i : Nat) (d : ND), ns[i]? = some d → NdS w (fun k => k < w.heap.size ∧ ¬ W k) d
  own : ∀ (i : Nat) (d : ND), ns[i]? = some d → i < m → 0 < d.ln → d.LA = some ⟨hl i, 0, none⟩ ∧ W (hl i) ∧ (hl i ≠ g ∧ B ≤ hl i) ∧ d.ln ≤ d.lc ∧ Rw w (hl i) 23 (d.lc * 1) (d.ls.map IS.v)
  old : ∀ (i : Nat) (d : ND), ns[i]? = some d → m ≤ i → RdS w (fun k => k < w.heap.size ∧ ¬ W k) d.LA d.ln (d.ls.map IS.v)
  inj : ∀ (i j : Nat) (d d' : ND), ns[i]? = some d → ns[j]? = some d' → i < m → j < m → 0 < d.ln → 0 < d'.ln → hl i = hl j → i = j
theorem rs_of_rd {w : World} {S : Nat → Prop} {B : Nat} {A : Option Addr} {n : Nat} {ls : List IS} (h : RdS w S A n (ls.map IS.v)) (hS : ∀ b, S b → b < B) : Rs w B A n 1 (ls.map fun l => [l.v]) := by
  refine ⟨by simpa using h.1, by simp, fun h0 => ?_⟩
  obtain ⟨b, o, e, hb, hc⟩ := h.2 h0
  refine ⟨b, o, e, hS b hb, fun i c hi j v hv => ?_⟩
  rw [List.getElem?_map, Option.map_eq_some_iff] at hi
  obtain ⟨l, hl, rfl⟩ := hi
  cases j with
  | zero =>
    rw [Nat.mul_one, Nat.add_zero]
    injection hv with hv
    subst hv
    exact hc i _ (by rw [List.getElem?_map, hl]; rfl)
  | succ j => cases hv
theorem OwnP.node {w : World} {B g c m : Nat} {W : Nat → Prop} {hl : Nat → Nat} {ns : List ND} (h : OwnP w B g c m W hl ns) {i : Nat} {d : ND} (hd : ns[i]? = some d) : d.At w w.heap.size := by
  have hn := h.nd i d hd
  refine ⟨hn.1.at_ fun b hb => hb.1, hn.2.1, hn.2.2.1, ?_, fun l hl => (hn.2.2.2.2.1 l hl).at_ fun b hb => hb.1, hn.2.2.2.2.2⟩
  by_cases hm : i < m
  · refine ⟨by simpa using hn.2.2.2.1, by simp, fun h0 => ?_⟩
    obtain ⟨e, hW, _, _, hr⟩ := h.own i d hd hm h0
    refine ⟨hl i, 0, e, hr.lt, fun j c hj k v hv => ?_⟩
    rw [List.getElem?_map, Option.map_eq_some_iff] at hj
    obtain ⟨l, hlj, rfl⟩ := hj
    cases k with
    | zero =>
      injection hv with hv
      subst hv
      rw [Nat.zero_add, Nat.mul_one, Nat.add_zero]
      exact hr.cell (by rw [List.getElem?_map, hlj]; rfl)
    | succ k => cases hv
  · exact rs_of_rd (h.old i d hd (by omega)) fun b hb => hb.1
theorem OwnP.pg {w : World} {B g c m : Nat} {W : Nat → Prop} {hl : Nat → Nat} {ns : List ND} (h : OwnP w B g c m W hl ns) : PgAt w w.heap.size (some ⟨g, 0, none⟩) ns.length c ns := by
  refine ⟨fun e => (by cases e), h.small, ⟨by simp, cells7 ns, fun _ => ⟨g, 0, rfl, h.row.lt, fun i c hi j v hv => ?_⟩⟩, fun d hd => ?_⟩
  · rw [List.getElem?_map, Option.map_eq_some_iff] at hi
    obtain ⟨d, hd, rfl⟩ := hi
    rw [Nat.zero_add]
    have hj : j < 7 := (List.getElem?_eq_some_iff.1 hv).1
    exact h.row.cell (by rw [flat_get2 hd j hj]; exact hv)
  · obtain ⟨i, hi, rfl⟩ := List.mem_iff_getElem.1 hd
    exact h.node (List.getElem?_eq_getElem hi)
theorem OwnP.below {w w' : World} {B g c m : Nat} {W : Nat → Prop} {hl : Nat → Nat} {ns : List ND} (h : OwnP w B g c m W hl ns) (hb : Below w.heap.size w w') : OwnP w' B g c m W hl ns := by
  have hT : Tch (fun _ => False) w w' := Tch.of_below hb
  have hsz := hb.size
  refine ⟨h.row.at_ (hb.block _ h.row.lt), h.cap, h.small, h.wg, fun k hk => Nat.lt_of_lt_of_le (h.wB k hk) hsz, h.gB, fun i d hd => ?_, fun i d hd hm h0 => ?_, fun i d hd hm => ?_, h.inj⟩
  · exact ((h.nd i d hd).tch hT fun b hb => ⟨hb.1, fun h => h⟩).mono fun b hb => ⟨Nat.lt_of_lt_of_le hb.1 hsz, hb.2⟩
  · obtain ⟨e, hW, hg, hc, hr⟩ := h.own i d hd hm h0
    exact ⟨e, hW, hg, hc, hr.at_ (hb.block _ hr.lt)⟩
  · exact ((h.old i d hd hm).tch hT fun b hb => ⟨hb.1, fun h => h⟩).mono fun b hb => ⟨Nat.lt_of_lt_of_le hb.1 hsz, hb.2⟩
/-- At the start. -/
theorem OwnP.start {w w' : World} {A A' : Option Addr} {n c c' B B0 : Nat} {ns : List ND} (hg : PgAt w B0 A n c ns) (h00 : B0 ≤ w.heap.size) (hn : 0 < n) (hB : w.heap.size ≤ B) (ho : w'.ownsRow B 49 7 (.slice A' n c') n (flat ns)) (hb : Below w.heap.size w w') :
    ∃ g, A' = some ⟨g, 0, none⟩ ∧ OwnP w' B g c' 0 (fun k => B0 ≤ k ∧ k < w'.heap.size) (fun _ => 0) ns := by
  obtain ⟨g, e, hBg, hc, hm, hr⟩ := Rw.of_own ho hn
  have hl := hg.len
  have hsz := hb.size
  have hT : Tch (fun _ => False) w w' := Tch.of_below hb
  have hS : ∀ b, b < B0 → b < w'.heap.size ∧ ¬ (B0 ≤ b ∧ b < w'.heap.size) := fun b hb => ⟨by omega, by omega⟩
  refine ⟨g, e, hr, ⟨by omega, hm⟩, by have := hg.2.1; omega, ⟨by omega, hr.lt⟩, fun k hk => hk.2, hBg, fun i d hd => ?_, fun i d hd h0 => absurd h0 (by omega), fun i d hd _ => ?_, fun i j d d' _ _ h0 => absurd h0 (by omega)⟩
  · have hda := hg.2.2.2 d (List.mem_of_getElem? hd)
    have hn2 : NdS w (· < B0) d := ⟨hda.1.s, hda.2.1, hda.2.2.1, hda.len, fun l hl => (hda.2.2.2.2.1 l hl).s, hda.2.2.2.2.2⟩
    exact (hn2.tch hT fun b hb => ⟨by omega, fun h => h⟩).mono hS
  · have hda := hg.2.2.2 d (List.mem_of_getElem? hd)
    have hrd : RdS w (· < B0) d.LA d.ln (d.ls.map IS.v) := by
      refine ⟨by simpa using hda.2.2.2.1.1, fun h0 => ?_⟩
      obtain ⟨b, o, e, hb, hcc⟩ := hda.2.2.2.1.2.2 h0
      refine ⟨b, o, e, hb, fun j u hu => ?_⟩
      rw [List.getElem?_map, Option.map_eq_some_iff] at hu
      obtain ⟨l, hlj, rfl⟩ := hu
      have := hcc j [l.v] (by rw [List.getElem?_map, hlj]; rfl) 0 l.v rfl
      rwa [Nat.mul_one, Nat.add_zero] at this
    exact (hrd.tch hT fun b hb => ⟨by omega, fun h => h⟩).mono hS
/-- A block that is not the nodes' nor a row of lists is written. -/
theorem OwnP.off {w w' : World} {B g c m x : Nat} {W : Nat → Prop} {hl : Nat → Nat} {ns : List ND} (h : OwnP w B g c m W hl ns) (hT : Tch (fun k => k = x) w w') (hw : W x) (hx : x < B) : OwnP w' B g c m W hl ns := by
  have hsz := hT.size
  have hS : ∀ b, b < w.heap.size ∧ ¬ W b → b < w.heap.size ∧ ¬ b = x := fun b hb => ⟨hb.1, fun e => hb.2 (e ▸ hw)⟩
  have hm : ∀ b, b < w.heap.size ∧ ¬ W b → b < w'.heap.size ∧ ¬ W b := fun b hb => ⟨by omega, hb.2⟩
  have hgB := h.gB
  refine ⟨h.row.at_ (hT.block _ h.row.lt (by omega)), h.cap, h.small, h.wg, fun k hk => Nat.lt_of_lt_of_le (h.wB k hk) hsz, h.gB, fun i d hd => ?_, fun i d hd hm h0 => ?_, fun i d hd hj => ?_, h.inj⟩
  · exact ((h.nd i d hd).tch hT hS).mono hm
  · obtain ⟨e, hW, hg, hc, hr⟩ := h.own i d hd hm h0
    exact ⟨e, hW, hg, hc, hr.at_ (hT.block _ hr.lt (by omega))⟩
  · exact ((h.old i d hd hj).tch hT hS).mono hm
/-- A node is changed, and its row of lists is not. -/
theorem OwnP.same {w w' : World} {B g c m : Nat} {W : Nat → Prop} {hl : Nat → Nat} {ns : List ND} (h : OwnP w B g c m W hl ns) (hT : Tch (fun k => k = g) w w') {i : Nat} {d d' : ND} (hd : ns[i]? = some d)
    (hr : Rw w' g 49 (c * 7) (flat (ns.set i d'))) (hL : d'.LA = d.LA ∧ d'.ln = d.ln ∧ d'.lc = d.lc ∧ d'.ls = d.ls)
    (hn : NdS w' (fun k => k < w'.heap.size ∧ ((k < w.heap.size ∧ ¬ W k) ∨ w.heap.size ≤ k)) d') : OwnP w' B g c m W hl (ns.set i d') := by
  have hsz := hT.size
  have hS : ∀ b, b < w.heap.size ∧ ¬ W b → b < w.heap.size ∧ ¬ b = g := fun b hb => ⟨hb.1, fun e => hb.2 (e ▸ h.wg)⟩
  have hm : ∀ b, b < w.heap.size ∧ ¬ W b → b < w'.heap.size ∧ ¬ W b := fun b hb => ⟨by omega, hb.2⟩
  have key : ∀ (j : Nat) (e : ND), (ns.set i d')[j]? = some e → ∃ e0, ns[j]? = some e0 ∧ e.LA = e0.LA ∧ e.ln = e0.ln ∧ e.lc = e0.lc ∧ e.ls = e0.ls := by
    intro j e he
    by_cases hj : i = j
    · subst hj
      rw [List.getElem?_set_self (List.getElem?_eq_some_iff.1 hd).1] at he
      injection he with he
      subst he
      exact ⟨d, hd, hL.1, hL.2.1, hL.2.2.1, hL.2.2.2⟩
    · rw [List.getElem?_set_ne hj] at he
      exact ⟨e, he, rfl, rfl, rfl, rfl⟩
  refine ⟨hr, by rw [List.length_set]; exact h.cap, by rw [List.length_set]; exact h.small, h.wg, fun k hk => Nat.lt_of_lt_of_le (h.wB k hk) hsz, h.gB, fun j e he => ?_, fun j e he hj h0 => ?_, fun j e he hj => ?_, fun j k e e' he he' hj hk h0 h0' => ?_⟩
  · by_cases hj : i = j
    · subst hj
      rw [List.getElem?_set_self (List.getElem?_eq_some_iff.1 hd).1] at he
      injection he with he
      subst he
      refine hn.mono fun b hb => ⟨hb.1, ?_⟩
      rcases hb.2 with h1 | h1
      · exact h1.2
      · intro hw; have := h.wB b hw; omega
    · rw [List.getElem?_set_ne hj] at he
      exact ((h.nd j e he).tch hT hS).mono hm
  · obtain ⟨e0, he0, e1, e2, e3, e4⟩ := key j e he
    rw [e2] at h0
    obtain ⟨a1, a2, a3, a4, a5⟩ := h.own j e0 he0 hj h0
    rw [e1, e2, e3, e4]
    exact ⟨a1, a2, a3, a4, a5.at_ (hT.block _ a5.lt a3.1)⟩
  · obtain ⟨e0, he0, e1, e2, e3, e4⟩ := key j e he
    rw [e1, e2, e4]
    exact ((h.old j e0 he0 hj).tch hT hS).mono hm
  · obtain ⟨f, hf, _, f2, _⟩ := key j e he
    obtain ⟨f', hf', _, f2', _⟩ := key k e' he'
    exact h.inj j k f f' hf hf' hj hk (by omega) (by omega)
/-- A node is changed, with a new row of lists. -/
theorem OwnP.step {w w' : World} {B g c m m' : Nat} {W : Nat → Prop} {hl : Nat → Nat} {ns : List ND} (h : OwnP w B g c m W hl ns) (hT : Tch (fun k => k = g) w w') {i : Nat} {d' : ND} (hi : i < ns.length) (hm : m' = m ∨ m' = m + 1 ∧ i = m) (him : i < m')
    (hB : B ≤ w.heap.size) (hr : Rw w' g 49 (c * 7) (flat (ns.set i d')))
    (hn : NdS w' (fun k => k < w'.heap.size ∧ ((k < w.heap.size ∧ ¬ W k) ∨ w.heap.size ≤ k ∧ d'.LA ≠ some ⟨k, 0, none⟩)) d')
    (ho : 0 < d'.ln → ∃ x, d'.LA = some ⟨x, 0, none⟩ ∧ w.heap.size ≤ x ∧ d'.ln ≤ d'.lc ∧ Rw w' x 23 (d'.lc * 1) (d'.ls.map IS.v)) :
    ∃ W' hl', OwnP w' B g c m' W' hl' (ns.set i d') ∧ ∀ k, W k → W' k := by
  have hsz := hT.size
  have hgl := h.row.lt
  have hS : ∀ b, b < w.heap.size ∧ ¬ W b → b < w.heap.size ∧ ¬ b = g := fun b hb => ⟨hb.1, fun e => hb.2 (e ▸ h.wg)⟩
  obtain ⟨x, hx, hxl⟩ : ∃ x, (0 < d'.ln → d'.LA = some ⟨x, 0, none⟩ ∧ w.heap.size ≤ x ∧ d'.ln ≤ d'.lc ∧ Rw w' x 23 (d'.lc * 1) (d'.ls.map IS.v)) ∧ (¬ 0 < d'.ln → x = g) := by
    by_cases h0 : 0 < d'.ln
    · obtain ⟨x, hx⟩ := ho h0
      exact ⟨x, fun _ => hx, fun h => absurd h0 h⟩
    · exact ⟨g, fun h => absurd h h0, fun _ => rfl⟩
  clear ho
  have hxw : ∀ k, k < w.heap.size → ¬ W k → ¬ (W k ∨ k = x) := by
    rintro k hk hw (h1 | rfl)
    · exact hw h1
    · by_cases h0 : 0 < d'.ln
      · have := (hx h0).2.1; omega
      · exact hw (by rw [hxl h0]; exact h.wg)
  have hm2 : ∀ b, b < w.heap.size ∧ ¬ W b → b < w'.heap.size ∧ ¬ (W b ∨ b = x) := fun b hb => ⟨by omega, hxw b hb.1 hb.2⟩
  refine ⟨fun k => W k ∨ k = x, fun j => if j = i then x else hl j, ⟨hr, by rw [List.length_set]; exact h.cap, by rw [List.length_set]; exact h.small, .inl h.wg, ?_, h.gB, fun j e he => ?_, fun j e he hj h0 => ?_, fun j e he hj => ?_, fun j k e e' he he' hj hk h0 h0' hh => ?_⟩, fun k hk => .inl hk⟩
  · rintro k (hk | rfl)
    · exact Nat.lt_of_lt_of_le (h.wB k hk) hsz
    · by_cases h0 : 0 < d'.ln
      · exact (hx h0).2.2.2.lt
      · rw [hxl h0]; omega
  · by_cases hj : i = j
    · subst hj
      rw [List.getElem?_set_self hi] at he
      injection he with he
      subst he
      refine hn.mono fun b hb => ⟨hb.1, ?_⟩
      rcases hb.2 with h1 | h1
      · exact hxw b h1.1 h1.2
      · rintro (hw | rfl)
        · have := h.wB b hw; omega
        · by_cases h0 : 0 < d'.ln
          · exact h1.2 (hx h0).1
          · have := hxl h0; omega
    · rw [List.getElem?_set_ne hj] at he
      exact ((h.nd j e he).tch hT hS).mono hm2
  · by_cases hj2 : i = j
    · subst hj2
      rw [List.getElem?_set_self hi] at he
      injection he with he
      subst he
      obtain ⟨a1, a2, a3, a4⟩ := hx h0
      simp only [if_true]
      exact ⟨a1, .inr trivial, ⟨by omega, by omega⟩, a3, a4⟩
    · rw [List.getElem?_set_ne hj2] at he
      obtain ⟨a1, a2, a3, a4, a5⟩ := h.own j e he (by omega) h0
      simp only [if_neg (Ne.symm hj2)]
      exact ⟨a1, .inl a2, a3, a4, a5.at_ (hT.block _ a5.lt a3.1)⟩
  · have hj2 : i ≠ j := by omega
    rw [List.getElem?_set_ne hj2] at he
    exact ((h.old j e he (by omega)).tch hT hS).mono hm2
  · by_cases hji : i = j
    · by_cases hki : i = k
      · omega
      · exfalso
        subst hji
        rw [List.getElem?_set_ne hki] at he'
        rw [List.getElem?_set_self hi] at he
        injection he with he
        subst he
        simp only [if_true, if_neg (Ne.symm hki)] at hh
        have h1 := (hx h0).2.1
        have h2 := (h.own k e' he' (by omega) h0').2.2.2.2.lt
        omega
    · by_cases hki : i = k
      · exfalso
        subst hki
        rw [List.getElem?_set_ne hji] at he
        rw [List.getElem?_set_self hi] at he'
        injection he' with he'
        subst he'
        simp only [if_true, if_neg (Ne.symm hji)] at hh
        have h1 := (hx h0').2.1
        have h2 := (h.own j e he (by omega) h0).2.2.2.2.lt
        omega
      · rw [List.getElem?_set_ne hji] at he
        rw [List.getElem?_set_ne hki] at he'
        simp only [if_neg (Ne.symm hji), if_neg (Ne.symm hki)] at hh
        exact h.inj j k e e' he he' (by omega) (by omega) h0 h0' hh
/-- A node's list is another one. -/
theorem OwnP.setList {w w' : World} {B g c m : Nat} {W : Nat → Prop} {hl : Nat → Nat} {ns : List ND} (h : OwnP w B g c m W hl ns) (hb : Below w.heap.size w w') {i k : Nat} {d : ND} (hd : ns[i]? = some d) (hm : i < m) (hk : k < d.ln)
    (l : IS) (hal : l.AtS w' (fun k => w.heap.size ≤ k ∧ k < w'.heap.size) .i64) (hcap : l.n ≤ l.c) : OwnP (w'.setCell ⟨hl i, k, none⟩ l.v) B g c m W hl (ns.set i { d with ls := d.ls.set k l }) := by
  have h1 := h.below hb
  have hsz := hb.size
  have hil := (List.getElem?_eq_some_iff.1 hd).1
  obtain ⟨b1, b2, b3, b4, b5⟩ := h1.own i d hd hm (by omega)
  have hT : Tch (fun q => q = hl i) w' (w'.setCell ⟨hl i, k, none⟩ l.v) := Tch.setCell (S := fun q => q = hl i) (Tch.refl _ _) rfl _ _
  have hS : ∀ b, b < w'.heap.size ∧ ¬ W b → b < w'.heap.size ∧ ¬ b = hl i := fun b hb => ⟨hb.1, fun e => hb.2 (e ▸ b2)⟩
  have hsz2 : (w'.setCell ⟨hl i, k, none⟩ l.v).heap.size = w'.heap.size := by simp [World.setCell]
  have hfl : flat (ns.set i { d with ls := d.ls.set k l }) = flat ns := by
    unfold flat
    congr 1
    rw [List.map_set]
    refine List.ext_getElem? fun q => ?_
    by_cases hq : i = q
    · subst hq
      rw [List.getElem?_set_self (by rw [List.length_map]; exact hil), List.getElem?_map, hd]; rfl
    · rw [List.getElem?_set_ne hq]
  have key : ∀ (j : Nat) (e : ND), (ns.set i { d with ls := d.ls.set k l })[j]? = some e → ∃ e0, ns[j]? = some e0 ∧ e.LA = e0.LA ∧ e.ln = e0.ln ∧ e.lc = e0.lc := by
    intro j e he
    by_cases hj : i = j
    · subst hj
      rw [List.getElem?_set_self hil] at he
      injection he with he
      subst he
      exact ⟨d, hd, rfl, rfl, rfl⟩
    · rw [List.getElem?_set_ne hj] at he
      exact ⟨e, he, rfl, rfl, rfl⟩
  refine ⟨by rw [hfl]; exact h1.row.at_ (Below.heap_setCell _ _ _ _ (Ne.symm b3.1)), by rw [List.length_set]; exact h1.cap, by rw [List.length_set]; exact h1.small, h1.wg, fun q hq => by rw [hsz2]; exact h1.wB q hq, h1.gB, fun j e he => ?_, fun j e he hj h0 => ?_, fun j e he hj => ?_, fun j q e e' he he' hj hq h0 h0' hh => ?_⟩
  · rw [hsz2]
    by_cases hj : i = j
    · subst hj
      rw [List.getElem?_set_self hil] at he
      injection he with he
      subst he
      have hn := (h1.nd i d hd).tch hT hS
      have hal2 : l.AtS (w'.setCell ⟨hl i, k, none⟩ l.v) (fun k => w.heap.size ≤ k ∧ k < w'.heap.size) .i64 := hal.tch hT fun b hb => ⟨hb.2, by have := h.wB _ b2; omega⟩
      have hmem : ∀ l' ∈ d.ls.set k l, l' = l ∨ l' ∈ d.ls := fun l' hl' => (List.mem_or_eq_of_mem_set hl').symm
      refine ⟨hn.1, hn.2.1, hn.2.2.1, by simpa using hn.2.2.2.1, fun l' hl' => ?_, hn.2.2.2.2.2.1, hn.2.2.2.2.2.2.1, hn.2.2.2.2.2.2.2.1, hn.2.2.2.2.2.2.2.2.1, fun l' hl' => ?_⟩
      · rcases hmem l' hl' with rfl | hl'
        · exact hal2.mono fun b hb => ⟨hb.2, fun hw => by have := h.wB b hw; omega⟩
        · exact hn.2.2.2.2.1 l' hl'
      · rcases hmem l' hl' with rfl | hl'
        · exact hcap
        · exact hn.2.2.2.2.2.2.2.2.2 l' hl'
    · rw [List.getElem?_set_ne hj] at he
      exact (h1.nd j e he).tch hT hS
  · by_cases hj2 : i = j
    · subst hj2
      rw [List.getElem?_set_self hil] at he
      injection he with he
      subst he
      refine ⟨b1, b2, b3, b4, ?_⟩
      show Rw _ _ _ _ ((d.ls.set k l).map IS.v)
      rw [List.map_set]
      exact b5.set_ k l.v
    · rw [List.getElem?_set_ne hj2] at he
      obtain ⟨a1, a2, a3, a4, a5⟩ := h1.own j e he hj h0
      exact ⟨a1, a2, a3, a4, a5.at_ (Below.heap_setCell _ _ _ _ fun q => hj2 (h1.inj i j d e hd he hm hj (by omega) h0 q.symm))⟩
  · rw [hsz2]
    have hj2 : i ≠ j := by omega
    rw [List.getElem?_set_ne hj2] at he
    exact (h1.old j e he hj).tch hT hS
  · obtain ⟨f, hf, _, f2, _⟩ := key j e he
    obtain ⟨f', hf', _, f2', _⟩ := key q e' he'
    exact h1.inj j q f f' hf hf' hj hq (by omega) (by omega) hh
/-- A node more, in the same row or in a new one. -/
theorem OwnP.append {w w' : World} {B g g' c c' m : Nat} {W : Nat → Prop} {hl : Nat → Nat} {ns : List ND} (h : OwnP w B g c m W hl ns) (hT : Tch (fun k => k = g) w w') (hg : g' = g ∨ w.heap.size ≤ g') (hB : B ≤ w.heap.size)
    (hr : Rw w' g' 49 (c' * 7) (flat (ns ++ [nd0]))) (hc : ns.length + 1 ≤ c' ∧ c' ≤ maxLen) (hs : ns.length + 1 ≤ 1048576) (hm : m = ns.length) : ∃ W', OwnP w' B g' c' (ns.length + 1) W' hl (ns ++ [nd0]) ∧ ∀ k, W k → W' k := by
  have hsz := hT.size
  have hS : ∀ b, b < w.heap.size ∧ ¬ W b → b < w.heap.size ∧ ¬ b = g := fun b hb => ⟨hb.1, fun e => hb.2 (e ▸ h.wg)⟩
  have hm2 : ∀ b, b < w.heap.size ∧ ¬ W b → b < w'.heap.size ∧ ¬ (W b ∨ b = g') := by
    rintro b ⟨h1, h2⟩
    refine ⟨by omega, ?_⟩
    rintro (h3 | rfl)
    · exact h2 h3
    · rcases hg with rfl | hg
      · exact h2 h.wg
      · omega
  have key : ∀ (j : Nat) (e : ND), (ns ++ [nd0])[j]? = some e → (ns[j]? = some e ∧ j < ns.length) ∨ e = nd0 := by
    intro j e he
    rw [List.getElem?_append] at he
    split at he
    · rename_i hj; exact .inl ⟨he, hj⟩
    · right
      cases hq : j - ns.length with
      | zero => rw [hq] at he; injection he with he; exact he.symm
      | succ q => rw [hq] at he; cases he
  have hgB := h.gB
  refine ⟨fun k => W k ∨ k = g', ⟨hr, by simpa using hc, by simpa using hs, .inr rfl, ?_, ?_, fun j e he => ?_, fun j e he hj h0 => ?_, fun j e he hj => ?_, fun j k e e' he he' hj hk h0 h0' hh => ?_⟩, fun k hk => .inl hk⟩
  · rintro k (hk | rfl)
    · exact Nat.lt_of_lt_of_le (h.wB k hk) hsz
    · exact hr.lt
  · rcases hg with rfl | hg
    · exact hgB
    · omega
  · rcases key j e he with ⟨h1, _⟩ | rfl
    · exact ((h.nd j e h1).tch hT hS).mono hm2
    · exact ⟨⟨fun _ => ⟨rfl, rfl⟩, Nat.zero_le _, ⟨rfl, fun h => absurd h (by decide)⟩, (fun x hx => by cases hx)⟩, fun _ => ⟨rfl, rfl⟩, Nat.zero_le _, rfl, (fun l hl => by cases hl), rfl, rfl, rfl, rfl, (fun l hl => by cases hl)⟩
  · rcases key j e he with ⟨h1, h2⟩ | rfl
    · obtain ⟨a1, a2, a3, a4, a5⟩ := h.own j e h1 (by omega) h0
      have := a5.lt
      refine ⟨a1, .inl a2, ⟨?_, a3.2⟩, a4, a5.at_ (hT.block _ a5.lt a3.1)⟩
      rcases hg with rfl | hg
      · exact a3.1
      · omega
    · exact absurd h0 (by decide)
  · exfalso
    have := (List.getElem?_eq_some_iff.1 he).1
    rw [List.length_append, List.length_singleton] at this
    omega
  · rcases key j e he with ⟨h1, h2⟩ | rfl
    · rcases key k e' he' with ⟨h3, h4⟩ | rfl
      · exact h.inj j k e e' h1 h3 (by omega) (by omega) h0 h0' hh
      · exact absurd h0' (by decide)
    · exact absurd h0 (by decide)
def IS.norm (l : IS) : IS := ⟨none, l.n, l.n, l.xs⟩
/-- A node without its places. -/
def ND.norm (d : ND) : ND := ⟨d.id, d.vec.norm, d.tags, d.level, none, d.ln, d.ln, d.ls.map IS.norm, d.next, d.prev⟩
def Eqv (ns ns' : List ND) : Prop := ns.map ND.norm = ns'.map ND.norm
theorem Eqv.refl (ns : List ND) : Eqv ns ns := rfl
theorem Eqv.symm {ns ns' : List ND} (h : Eqv ns ns') : Eqv ns' ns := Eq.symm h
theorem Eqv.trans {ns ns' ns'' : List ND} (h : Eqv ns ns') (h' : Eqv ns' ns'') : Eqv ns ns'' := Eq.trans h h'
theorem Eqv.len {ns ns' : List ND} (h : Eqv ns ns') : ns.length = ns'.length := by simpa using congrArg List.length h
theorem Eqv.set {ns ns' : List ND} (h : Eqv ns ns') (i : Nat) {d d' : ND} (hd : d.norm = d'.norm) : Eqv (ns.set i d) (ns'.set i d') := by
  unfold Eqv at h ⊢
  rw [List.map_set, List.map_set, h, hd]
theorem Eqv.get {ns ns' : List ND} (h : Eqv ns ns') {i : Nat} {d : ND} (hd : ns[i]? = some d) : ∃ d', ns'[i]? = some d' ∧ d.norm = d'.norm := by
  have h1 := congrArg (·[i]?) h
  simp only [List.getElem?_map, hd, Option.map_some] at h1
  cases h2 : ns'[i]? with
  | none => rw [h2] at h1; cases h1
  | some d' => rw [h2] at h1; injection h1 with h1; exact ⟨d', rfl, h1⟩
theorem Eqv.set1 {ns ns' : List ND} (h : Eqv ns ns') {i : Nat} {d d' : ND} (hd : ns'[i]? = some d) (he : d'.norm = d.norm) : Eqv ns (ns'.set i d') := by
  unfold Eqv at h ⊢
  rw [h, List.map_set, he]
  refine List.ext_getElem? fun q => ?_
  by_cases hq : i = q
  · subst hq
    have := (List.getElem?_eq_some_iff.1 hd).1
    rw [List.getElem?_set_self (by simpa using this), List.getElem?_map, hd]; rfl
  · rw [List.getElem?_set_ne hq]
section
variable (ns : List ND)
theorem nAt_norm (i : Nat) : nAt (ns.map ND.norm) i = (nAt ns i).norm := by
  unfold nAt
  rw [List.getD_eq_getElem?_getD, List.getD_eq_getElem?_getD, List.getElem?_map]
  cases ns[i]? <;> rfl
theorem lsAt_norm (d : ND) (k : Nat) : (lsAt d.norm k).xs = (lsAt d k).xs := by
  unfold lsAt
  rw [List.getD_eq_getElem?_getD, List.getD_eq_getElem?_getD]
  show (((d.ls.map IS.norm)[k]?).getD _).xs = _
  rw [List.getElem?_map]
  cases d.ls[k]? <;> rfl
theorem thN_norm (i : Nat) : thN (ns.map ND.norm) i = thN ns i := by
  unfold thN
  rw [List.length_map, nAt_norm]; rfl
theorem thB_norm (s : Int) : thB (ns.map ND.norm) s = thB ns s := by unfold thB; rw [thN_norm]
theorem lvI_norm (k : Nat) : lvI (ns.map ND.norm) k = lvI ns k := by
  unfold lvI
  congr 1
  exact List.filter_congr fun i _ => thN_norm ns i
theorem liveI_norm : liveI (ns.map ND.norm) = liveI ns := by unfold liveI; rw [List.length_map, lvI_norm]
theorem ringGo_norm : ∀ (f : Nat) (out : List Int) (a : Int), ringGo (ns.map ND.norm) f out a = ringGo ns f out a
  | 0, _, _ => rfl
  | f + 1, out, a => by
    unfold ringGo
    rw [thB_norm, nAt_norm]
    show (if _ then ringGo (ns.map ND.norm) f _ (nAt ns a.toNat).next else _) = _
    rw [ringGo_norm f]
theorem ringI_norm : ringI (ns.map ND.norm) = ringI ns := by
  unfold ringI
  rw [List.length_map, nAt_norm, ringGo_norm]; rfl
theorem rOk_norm (i : Nat) : rOk (ns.map ND.norm) i = rOk ns i := by
  unfold rOk bareB placeB
  rw [thN_norm, nAt_norm]
  show (if _ then _ else ((nAt ns i).next == 0 || thB (ns.map ND.norm) (nAt ns i).next) && ((nAt ns i).prev == 0 || thB (ns.map ND.norm) (nAt ns i).prev) && ((nAt (ns.map ND.norm) (nAt ns i).next.toNat).prev == (i : Int))) = _
  rw [thB_norm, thB_norm, nAt_norm]; rfl
theorem ringB_norm : ringB (ns.map ND.norm) = ringB ns := by
  unfold ringB
  rw [ringI_norm, liveI_norm, List.length_map]
  congr 1
  exact List.all_congr rfl fun i => rOk_norm ns i
theorem backB_norm (slot level : Nat) (x : Int) : backB (ns.map ND.norm) slot level x = backB ns slot level x := by
  unfold backB
  rw [thB_norm, nAt_norm, lsAt_norm]; rfl
theorem listB_norm (slot level : Nat) (links : Int) : listB (ns.map ND.norm) slot level links = listB ns slot level links := by
  unfold listB
  rw [nAt_norm, lsAt_norm, List.length_map]
  congr 1
  exact List.all_congr rfl fun x => backB_norm ns slot level x
theorem nodeB_norm (slot : Nat) (links : Int) : nodeB (ns.map ND.norm) slot links = nodeB ns slot links := by
  unfold nodeB listsB onceB idI
  rw [nAt_norm, liveI_norm]
  have e1 : (List.range (nAt ns slot).norm.ln).all (fun l => listB (ns.map ND.norm) slot l links) = (List.range (nAt ns slot).ln).all (fun l => listB ns slot l links) := List.all_congr rfl fun l => listB_norm ns slot l links
  have e2 : (liveI ns).all (fun x => !((x != (slot : Int)) && ((nAt (ns.map ND.norm) x.toNat).id == (nAt (ns.map ND.norm) (slot : Int).toNat).id))) = (liveI ns).all (fun x => !((x != (slot : Int)) && ((nAt ns x.toNat).id == (nAt ns (slot : Int).toNat).id))) := List.all_congr rfl fun x => by rw [nAt_norm, nAt_norm]; rfl
  rw [e1, e2]; rfl
theorem entB_norm (en tp : Int) : entB (ns.map ND.norm) en tp = entB ns en tp := by
  unfold entB
  rw [thB_norm, nAt_norm]; rfl
theorem chkB_norm (links en tp : Int) : chkB (ns.map ND.norm) links en tp = chkB ns links en tp := by
  unfold chkB
  rw [List.length_map, ringB_norm, liveI_norm, entB_norm]
  congr 2
  exact List.all_congr rfl fun x => nodeB_norm ns x.toNat links
theorem nearSrc_norm (k : Nat) (level : Int) : nearSrc (ns.map ND.norm) k level = nearSrc ns k level := by
  unfold nearSrc
  rw [nAt_norm, lsAt_norm, show (nAt ns k).norm.ls.length = (nAt ns k).ls.length from List.length_map ..]; rfl
theorem nearQ_norm (l : List Int) : nearQ (ns.map ND.norm) l = nearQ ns l := by
  funext i
  unfold nearQ
  rw [thB_norm]
theorem nearI_norm (s level : Int) : nearI (ns.map ND.norm) s level = nearI ns s level := by
  unfold nearI
  rw [List.length_map, nearSrc_norm, nearQ_norm]
end
section
variable {ns ns' : List ND}
theorem Eqv.thB (h : Eqv ns ns') (s : Int) : thB ns s = Proofs.Ytckclflbcgblaaa.thB ns' s := by rw [← thB_norm, h, thB_norm]
theorem Eqv.live (h : Eqv ns ns') : liveI ns = liveI ns' := by rw [← liveI_norm, h, liveI_norm]
theorem Eqv.ring (h : Eqv ns ns') : ringI ns = ringI ns' := by rw [← ringI_norm, h, ringI_norm]
theorem Eqv.near (h : Eqv ns ns') (s level : Int) : nearI ns s level = nearI ns' s level := by rw [← nearI_norm, h, nearI_norm]
theorem Eqv.chk (h : Eqv ns ns') (links en tp : Int) : chkB ns links en tp = chkB ns' links en tp := by rw [← chkB_norm, h, chkB_norm]
theorem Eqv.chkW (h : Eqv ns ns') (links en tp : Int) : chkW ns links en tp = Proofs.Ytckclflbcgblaaa.chkW ns' links en tp := by unfold Proofs.Ytckclflbcgblaaa.chkW; rw [h.chk]
theorem Eqv.nAt (h : Eqv ns ns') (i : Nat) : (nAt ns i).norm = (Proofs.Ytckclflbcgblaaa.nAt ns' i).norm := by rw [← nAt_norm, h, nAt_norm]
end
theorem exec_load {w : World} {o : Oper} {a : Act} {ty : TypeId} {p v : Value} {x : Operand} (ho : o.op = .load ty x) (hx : a.eval x = p) (hr : (Instr.loadAt ty p).run Try.prog w = .ok v w) : (execOp a.eval o).run Try.prog w = .ok (.value v) w := by
  unfold execOp
  simp only [ho, hx, Sem.run_bind, hr, Result.andThen_ok]
  rfl
theorem load_i32s {w : World} {b o : Nat} {A : Option Addr} {n c : Nat} (h : w.cell? ⟨b, o, none⟩ = some (.slice A n c)) : (Instr.loadAt 30 (.pointer (some ⟨b, o, none⟩))).run Try.prog w = .ok (.slice A n c) w := by
  simp [go_sem, h]
theorem store_i32s {w : World} {b o : Nat} {u v : Value} (h : w.cell? ⟨b, o, none⟩ = some u) (hf : w.frozen? ⟨b, o, none⟩ = false) {A : Option Addr} {n c : Nat} (hv : v = .slice A n c := by rfl) : (Instr.storeAt 30 (.pointer (some ⟨b, o, none⟩)) v).run Try.prog w = .ok () (w.setCell ⟨b, o, none⟩ v) := by
  subst hv
  simp [go_sem, h, hf]
/-- The plane is another one, of the call's own. -/
def RetP (B0 : Nat) (ns : List ND) (en tp : Int) (w : World) (e : Ending) (w' : World) : Prop := ∃ B g c W hl ns', e = .returned (.agg (pgL (some ⟨g, 0, none⟩) ns.length c en tp)) ∧ w.heap.size ≤ B ∧ OwnP w' B g c ns.length W hl ns' ∧ Eqv ns ns' ∧ (∀ k, B0 ≤ k → k < w.heap.size → W k) ∧ Below w.heap.size w w'
/-- The rows while they are cloned: of the first j nodes. -/
structure OwnS (B0 : Nat) (w wr : World) (g c j : Nat) (en tp : Int) (ns ns' : List ND) (W : Nat → Prop) (hl : Nat → Nat) : Prop where
  own : OwnP wr (w.heap.size + 2) g c j W hl ns'
  eqv : Eqv ns ns'
  bel : Below w.heap.size w wr
  pl : Blk wr w.heap.size 27 (pgL (some ⟨g, 0, none⟩) ns.length c en tp)
  res : Blk wr (w.heap.size + 1) 27 (pgL none 0 0 0 0)
  w2 : ∀ k, B0 ≤ k → k < w.heap.size + 2 → W k
/-- A row of lists while they are cloned: the first k. -/
structure OwnK (w5 wi : World) (h lc k : Nat) (ls0 ls : List IS) (B : Nat) : Prop where
  row : Rw wi h 23 (lc * 1) (ls.map IS.v)
  len : ls.length = ls0.length
  norm : ls.map IS.norm = ls0.map IS.norm
  done : ∀ q l, q < k → ls[q]? = some l → l.AtS wi (fun b => B ≤ b ∧ b < wi.heap.size ∧ b ≠ h) .i64 ∧ l.n ≤ l.c
  rest : ∀ q, k ≤ q → ls[q]? = ls0[q]?
  tch : Tch (fun b => b = h) w5 wi
theorem OwnK.next {w5 wi w6 : World} {h lc k B n c : Nat} {ls0 ls : List IS} {A : Option Addr} (H : OwnK w5 wi h lc k ls0 ls B) (hB : B ≤ h) {l : IS} (hl : ls0[k]? = some l) (hla : l.AtS wi (fun _ => True) .i64)
    (ho : OwnI w6 wi.heap.size A n c l.xs) (hb : Below wi.heap.size wi w6) : n = l.n ∧ w6.frozen? ⟨h, k, none⟩ = false ∧ (∃ u, w6.cell? ⟨h, k, none⟩ = some u) ∧ OwnK w5 (w6.setCell ⟨h, k, none⟩ (.slice A n c)) h lc (k + 1) ls0 (ls.set k ⟨A, n, c, l.xs⟩) B := by
  have hk : ls[k]? = some l := (H.rest k (Nat.le_refl _)).trans hl
  have hkl := (List.getElem?_eq_some_iff.1 hk).1
  have hn : n = l.n := by rw [← ho.len, ← hla.2.2.1.1, List.length_map]
  have hlt := H.row.lt
  have R6 : Rw w6 h 23 (lc * 1) (ls.map IS.v) := H.row.at_ (hb.block _ hlt)
  have hsz := hb.size
  have hsz2 : (w6.setCell ⟨h, k, none⟩ (.slice A n c)).heap.size = w6.heap.size := by simp [World.setCell]
  have hT6 : Tch (fun b => b = h) w6 (w6.setCell ⟨h, k, none⟩ (.slice A n c)) := Tch.setCell (S := fun b => b = h) (Tch.refl _ _) rfl _ _
  refine ⟨hn, R6.frozen k, ⟨l.v, R6.cell (by rw [List.getElem?_map, hk]; rfl)⟩, ?_, by rw [List.length_set]; exact H.len, ?_, fun q l' hq hl' => ?_, fun q hq => ?_, (H.tch.trans (Tch.of_below hb) (fun _ q => .inl q)).trans hT6 (fun _ q => .inl q)⟩
  · have := R6.set_ k (IS.v ⟨A, n, c, l.xs⟩)
    rw [← List.map_set] at this
    exact this
  · rw [List.map_set, H.norm]
    refine List.ext_getElem? fun q => ?_
    by_cases hq : k = q
    · subst hq
      rw [List.getElem?_set_self (by rw [List.length_map, ← H.len]; exact hkl), List.getElem?_map, hl]
      show _ = some (IS.norm l)
      unfold IS.norm
      rw [hn]
    · rw [List.getElem?_set_ne hq]
  · rw [hsz2]
    by_cases hq2 : k = q
    · subst hq2
      rw [List.getElem?_set_self hkl] at hl'
      injection hl' with hl'
      subst hl'
      have hrd : RdS w6 (fun b => wi.heap.size ≤ b ∧ b < w6.heap.size) A n (l.xs.map (.int .i64)) := by
        refine ⟨by rw [List.length_map]; exact ho.len, fun h0 => ?_⟩
        rcases ho.row with ⟨_, e0, _⟩ | ⟨g, e, hg, _, _, cs, hcs, hln, htk⟩
        · omega
        · refine ⟨g, 0, e, ⟨hg, hcs.ib.lt⟩, fun q u hu => ?_⟩
          rw [List.getElem?_map, Option.map_eq_some_iff] at hu
          obtain ⟨x, hx, rfl⟩ := hu
          have hqn : q < n := by rw [← ho.len]; exact (List.getElem?_eq_some_iff.1 hx).1
          rw [Nat.zero_add, hcs.ib.cell (by omega)]
          congr 2
          rw [← htk, List.getElem?_take, if_pos hqn] at hx
          unfold ig; rw [List.getD_eq_getElem?_getD, hx]; rfl
      have hat : IS.AtS w6 (fun b => wi.heap.size ≤ b ∧ b < w6.heap.size) .i64 ⟨A, n, c, l.xs⟩ := ⟨ho.none_, by show n ≤ _; rw [hn]; exact hla.2.1, hrd, hla.2.2.2⟩
      refine ⟨(hat.tch hT6 fun b hb => ⟨hb.2, by omega⟩).mono fun b hb => ⟨by have := H.tch.size; omega, hb.2, by omega⟩, ?_⟩
      show n ≤ c
      rcases ho.row with ⟨_, e0, _⟩ | ⟨g, e, hg, h9, _⟩
      · omega
      · exact h9
    · rw [List.getElem?_set_ne hq2] at hl'
      obtain ⟨a1, a2⟩ := H.done q l' (by omega) hl'
      refine ⟨((a1.tch (Tch.of_below (S := fun _ => False) hb) fun b hb => ⟨hb.2.1, fun h => h⟩).mono (S' := fun b => B ≤ b ∧ b < w6.heap.size ∧ b ≠ h) fun b hb => ⟨hb.1, by omega, hb.2.2⟩).tch hT6 fun b hb => ⟨hb.2.1, hb.2.2⟩, a2⟩
  · rw [List.getElem?_set_ne (by omega)]
    exact H.rest q (by omega)
/-- The lists of the next node are the call's own. -/
theorem OwnS.lists {w wr w5 wi : World} {B0 g c j h c5 : Nat} {en tp : Int} {ns ns' : List ND} {W : Nat → Prop} {hl : Nat → Nat} (H : OwnS B0 w wr g c j en tp ns ns' W hl) {d : ND} (hd : ns'[j]? = some d) (b5 : Below wr.heap.size wr w5) {A5 : Option Addr} {ls : List IS}
    (hA : A5 = none ↔ d.LA = none) (hlen : ls.length = d.ln) (hnorm : ls.map IS.norm = d.ls.map IS.norm) (h0 : d.ln = 0 → wi = w5 ∧ c5 = c5) (hz : A5 = none → c5 = 0)
    (h1 : 0 < d.ln → A5 = some ⟨h, 0, none⟩ ∧ wr.heap.size ≤ h ∧ h < w5.heap.size ∧ d.ln ≤ c5 ∧ OwnK w5 wi h c5 d.ln d.ls ls wr.heap.size) :
    wi.cell? ⟨w.heap.size, 0, none⟩ = some (.slice (some ⟨g, 0, none⟩) ns.length c) ∧ wi.cell? ⟨g, j * 7 + 4, none⟩ = some (.slice d.LA d.ln d.lc) ∧ wi.frozen? ⟨g, j * 7 + 4, none⟩ = false ∧
    ∃ W' hl', OwnS B0 w (wi.setCell ⟨g, j * 7 + 4, none⟩ (.slice A5 d.ln c5)) g c (j + 1) en tp ns (ns'.set j ⟨d.id, d.vec, d.tags, d.level, A5, d.ln, c5, ls, d.next, d.prev⟩) W' hl' := by
  have bi : Below wr.heap.size wr wi := by
    by_cases hp : 0 < d.ln
    · obtain ⟨_, q1, q2, _, K⟩ := h1 hp
      exact b5.trans (K.tch.below b5.size (by rintro k rfl; exact q1))
    · rw [(h0 (by omega)).1]; exact b5
  have hj := (List.getElem?_eq_some_iff.1 hd).1
  have hnd := H.own.nd j d hd
  have hsz := H.bel.size
  have hszi := bi.size
  have hgl := H.own.row.lt
  have hgB := H.own.gB
  have P := H.pl.below bi H.pl.lt
  have R := H.res.below bi H.res.lt
  have Rg : Rw wi g 49 (c * 7) (flat ns') := H.own.row.at_ (bi.block _ hgl)
  refine ⟨P.cell 0, Rg.cell (flat_get2 hd 4 (by decide)), Rg.frozen _, ?_⟩
  have hT : Tch (fun k => k = g) wr (wi.setCell ⟨g, j * 7 + 4, none⟩ (.slice A5 d.ln c5)) := Tch.setCell (S := fun k => k = g) (Tch.of_below bi) rfl _ _
  have hsz2 : (wi.setCell ⟨g, j * 7 + 4, none⟩ (.slice A5 d.ln c5)).heap.size = wi.heap.size := by simp [World.setCell]
  have hTi : Tch (fun k => k = g) wi (wi.setCell ⟨g, j * 7 + 4, none⟩ (.slice A5 d.ln c5)) := Tch.setCell (S := fun k => k = g) (Tch.refl _ _) rfl _ _
  have hwn : ∀ b, b < wr.heap.size ∧ ¬ W b → b < wr.heap.size ∧ ¬ b = g := fun b hb => ⟨hb.1, fun e => hb.2 (e ▸ H.own.wg)⟩
  have hAl : ∀ l ∈ ls, l.AtS wi (fun b => wr.heap.size ≤ b ∧ b < wi.heap.size ∧ b ≠ h) .i64 ∧ l.n ≤ l.c := by
    intro l hl
    obtain ⟨q, hq, rfl⟩ := List.mem_iff_getElem.1 hl
    exact (h1 (by omega)).2.2.2.2.done q _ (by omega) (List.getElem?_eq_getElem hq)
  obtain ⟨W', hl', O, hW⟩ := H.own.step (w' := wi.setCell ⟨g, j * 7 + 4, none⟩ (.slice A5 d.ln c5)) hT (i := j) (d' := ⟨d.id, d.vec, d.tags, d.level, A5, d.ln, c5, ls, d.next, d.prev⟩) (m' := j + 1) hj (.inr ⟨rfl, rfl⟩) (by omega) (by have := H.res.lt; omega)
    (by
      have := Rg.set_ (j * 7 + 4) (.slice A5 d.ln c5)
      rw [flat_set (k := 4) (d' := ⟨d.id, d.vec, d.tags, d.level, A5, d.ln, c5, ls, d.next, d.prev⟩) hd (by decide) rfl] at this
      exact this)
    (by
      refine ⟨(hnd.1.tch hT hwn).mono fun b hb => ⟨by omega, .inl hb⟩, fun e => ⟨(hnd.2.1 (hA.1 e)).1, hz e⟩, hnd.2.2.1, hlen, fun l hl => ?_, hnd.2.2.2.2.2.1, hnd.2.2.2.2.2.2.1, hnd.2.2.2.2.2.2.2.1, hnd.2.2.2.2.2.2.2.2.1, fun l hl => (hAl l hl).2⟩
      refine ((hAl l hl).1.tch hTi fun b hb => ⟨hb.2.1, by omega⟩).mono fun b hb => ⟨by omega, .inr ⟨hb.1, ?_⟩⟩
      intro e
      have hp : 0 < d.ln := by rw [← hlen]; exact List.length_pos_of_mem hl
      rw [(h1 hp).1] at e
      injection e with e
      injection e with e
      exact hb.2.2 e.symm)
    (fun hp => by
      obtain ⟨q1, q2, q3, q4, K⟩ := h1 hp
      exact ⟨h, q1, q2, q4, K.row.at_ (Below.heap_setCell _ _ _ _ (by show h ≠ g; omega))⟩)
  exact ⟨W', hl', O, H.eqv.set1 hd (by unfold ND.norm; rw [hnorm]), (H.bel.trans (bi.mono hsz)).setCell (by show w.heap.size ≤ g; omega) _, P.far (by show w.heap.size ≠ g; omega) _, R.far (by show w.heap.size + 1 ≠ g; omega) _, fun k q1 q2 => hW _ (H.w2 k q1 q2)⟩
theorem load_i32s' {w : World} {b o : Nat} {v : IS} (h : w.cell? ⟨b, o, none⟩ = some v.v) : (Instr.loadAt 30 (.pointer (some ⟨b, o, none⟩))).run Try.prog w = .ok (.slice v.A v.n v.c) w := load_i32s h
/-- .. and its vector. -/
theorem OwnS.vec {w wr Z : World} {B0 g c j m : Nat} {en tp : Int} {ns ns' : List ND} {W : Nat → Prop} {hl : Nat → Nat} (H : OwnS B0 w wr g c m en tp ns ns' W hl) {d : ND} (hd : ns'[j]? = some d) {A9 : Option Addr} {c9 : Nat}
    (ho : Z.ownsRow wr.heap.size 21 1 (.slice A9 d.vec.n c9) d.vec.n (d.vec.xs.map (.int .i32))) (hb : Below wr.heap.size wr Z) :
    Z.cell? ⟨g, j * 7 + 1, none⟩ = some d.vec.v ∧ Z.frozen? ⟨g, j * 7 + 1, none⟩ = false ∧ (Z.setCell ⟨g, j * 7 + 1, none⟩ (.slice A9 d.vec.n c9)).cell? ⟨w.heap.size, 0, none⟩ = some (.slice (some ⟨g, 0, none⟩) ns.length c) ∧
    OwnS B0 w (Z.setCell ⟨g, j * 7 + 1, none⟩ (.slice A9 d.vec.n c9)) g c m en tp ns (ns'.set j ⟨d.id, ⟨A9, d.vec.n, c9, d.vec.xs⟩, d.tags, d.level, d.LA, d.ln, d.lc, d.ls, d.next, d.prev⟩) W hl := by
  have hnd := H.own.nd j d hd
  have hsz := H.bel.size
  have hszi := hb.size
  have hgl := H.own.row.lt
  have hgB := H.own.gB
  have P := H.pl.below hb H.pl.lt
  have R := H.res.below hb H.res.lt
  have Rg : Rw Z g 49 (c * 7) (flat ns') := H.own.row.at_ (hb.block _ hgl)
  have P2 := P.far (p := ⟨g, j * 7 + 1, none⟩) (by show w.heap.size ≠ g; omega) (.slice A9 d.vec.n c9)
  have hT : Tch (fun k => k = g) wr (Z.setCell ⟨g, j * 7 + 1, none⟩ (.slice A9 d.vec.n c9)) := Tch.setCell (S := fun k => k = g) (Tch.of_below hb) rfl _ _
  have hTi : Tch (fun k => k = g) Z (Z.setCell ⟨g, j * 7 + 1, none⟩ (.slice A9 d.vec.n c9)) := Tch.setCell (S := fun k => k = g) (Tch.refl _ _) rfl _ _
  have hsz2 : (Z.setCell ⟨g, j * 7 + 1, none⟩ (.slice A9 d.vec.n c9)).heap.size = Z.heap.size := by simp [World.setCell]
  have hwn : ∀ b, b < wr.heap.size ∧ ¬ W b → b < wr.heap.size ∧ ¬ b = g := fun b hb => ⟨hb.1, fun e => hb.2 (e ▸ H.own.wg)⟩
  refine ⟨Rg.cell (flat_get2 hd 1 (by decide)), Rg.frozen _, P2.cell 0, ?_, H.eqv.set1 hd ?_, (H.bel.trans (hb.mono hsz)).setCell (by show w.heap.size ≤ g; omega) _, P2, R.far (by show w.heap.size + 1 ≠ g; omega) _, H.w2⟩
  · refine H.own.same (w' := Z.setCell ⟨g, j * 7 + 1, none⟩ (.slice A9 d.vec.n c9)) hT hd ?_ ⟨rfl, rfl, rfl, rfl⟩ ?_
    · have := Rg.set_ (j * 7 + 1) (.slice A9 d.vec.n c9)
      rw [flat_set (k := 1) (u := .slice A9 d.vec.n c9) (d' := ⟨d.id, ⟨A9, d.vec.n, c9, d.vec.xs⟩, d.tags, d.level, d.LA, d.ln, d.lc, d.ls, d.next, d.prev⟩) hd (by decide) rfl] at this
      exact this
    · refine ⟨?_, hnd.2.1, hnd.2.2.1, hnd.2.2.2.1, fun l hl => ((hnd.2.2.2.2.1 l hl).tch hT hwn).mono fun b hb => ⟨by omega, .inl hb⟩, hnd.2.2.2.2.2⟩
      refine ⟨fun e => ?_, hnd.1.2.1, ?_, hnd.1.2.2.2⟩
      · rcases ho.2 with ⟨q, q0⟩ | ⟨x, cap, cur, q, _⟩
        · injection q with _ q2 q3; exact ⟨q2, q3⟩
        · injection q with q1 _ _; exact absurd (e.symm.trans q1) (by simp)
      · refine ⟨by simpa using ho.1, fun h0 => ?_⟩
        obtain ⟨x, e, hx, _, _, hr⟩ := Rw.of_own ho h0
        have hxl := hr.lt
        refine ⟨x, 0, e, ⟨by omega, .inr hx⟩, fun q u hu => ?_⟩
        rw [Nat.zero_add]
        exact (hTi.cell (p := ⟨x, q, none⟩) hxl (by show ¬ x = g; omega)).trans (hr.cell hu)
  · unfold ND.norm IS.norm; rfl
theorem planeZ : pgL none 0 0 0 0 = #[.slice none 0 0, .int .i64 0, .int .i64 0] := rfl
set_option maxRecDepth 100000 in
set_option maxHeartbeats 1000000 in
theorem pl_own (A : Option Addr) (n c : Nat) (ns : List ND) (en tp : Int) (w : World) (B0 : Nat) (hg0 : PgAt w B0 A n c ns) (h00 : B0 ≤ w.heap.size) (h0 : 0 < n) :
    Calls Try.prog 23 #[.agg (pgL A n c en tp)] w (RetP B0 ns en tp w) := by
  have hg := hg0.more h00
  obtain ⟨w2, hw2⟩ : ∃ x, (w.alloc (.cells (pgL A n c en tp) 27)).alloc (.cells (pgL none 0 0 0 0) 27) = x := ⟨_, rfl⟩
  have s1 : (w.alloc (.cells (pgL A n c en tp) 27)).heap.size = w.heap.size + 1 := by simp only [World.alloc, Array.size_push]
  have k1 : Blk w2 w.heap.size 27 (pgL A n c en tp) := by rw [← hw2]; exact (Blk.new _ _ _).alloc _
  have k2 : Blk w2 (w.heap.size + 1) 27 (pgL none 0 0 0 0) := by rw [← hw2, ← s1]; exact Blk.new _ _ _
  have b2 : Below w.heap.size w w2 := by rw [← hw2]; exact (bel_box w _).alloc (by rw [s1]; omega) _
  have s2 : w2.heap.size = w.heap.size + 2 := by rw [← hw2]; simp only [World.alloc, Array.size_push]
  have HCN := Lib.hid (sl_cloneN A n c ns w2 (hg.on b2 b2.size))
  have hn := hg.2.1
  have HL := Lib.hid hg.len
  have HG := Lib.hid hg0
  have HK1 := Lib.hid k1
  have HK2 := Lib.hid k2
  have HB2 := Lib.hid b2
  have HS2 := Lib.hid s2
  have c0 : w2.cell? ⟨w.heap.size, 0, none⟩ = some (.slice A n c) := k1.cell 0
  have f0 : w2.frozen? ⟨w.heap.size, 0, none⟩ = false := k1.frozen 0
  clear hg hg0 k1 k2 b2 s1 s2
  rw [planeZ] at hw2
  unfold pgL at hw2 ⊢
  go_enter Try.func23, Try.ntmps23
  go_upto_region 1 with fail
  (try rw [hw2])
  clear hw2
  go_upto_region 2 with (go_at_call 42; (with_reducible refine HCN.out.mono ?_); rintro e w3 ⟨A3, c3, rfl, ho3, hA3, b3⟩; have HO3 := Lib.hid ho3; have HB3 := Lib.hid b3; have d0 : w3.cell? ⟨w.heap.size, 0, none⟩ = some (.slice A n c) := (HK1.out.below b3 HK1.out.lt).cell 0; have f1 : w3.frozen? ⟨w.heap.size, 0, none⟩ = false := (HK1.out.below b3 HK1.out.lt).frozen 0; clear ho3 hA3 b3)
  obtain ⟨w4, hw4⟩ : ∃ x, w3.setCell ⟨w.heap.size, 0, none⟩ (.slice A3 n c3) = x := ⟨_, rfl⟩
  have hST : ∃ g, A3 = some ⟨g, 0, none⟩ ∧ OwnS B0 w w4 g c3 0 en tp ns ns (fun k => B0 ≤ k ∧ k < w3.heap.size) (fun _ => 0) := by
    have hb : Below w.heap.size w w3 := HB2.out.trans (HB3.out.mono HB2.out.size)
    have h3 := HB3.out.size
    have hs2 := HS2.out
    obtain ⟨g, e, ho⟩ := OwnP.start HG.out h00 h0 HB2.out.size HO3.out hb
    have hT : Tch (fun k => k = w.heap.size) w3 w4 := by rw [← hw4]; exact Tch.setCell (S := fun k => k = w.heap.size) (Tch.refl _ _) rfl _ _
    rw [hs2] at ho
    refine ⟨g, e, ho.off hT ⟨h00, by omega⟩ (by omega), Eqv.refl _, ?_, ?_, ?_, fun k q1 q2 => ⟨q1, by omega⟩⟩
    · rw [← hw4]; exact hb.setCell (Nat.le_refl _) _
    · have := (HK1.out.below HB3.out HK1.out.lt).set_ 0 (.slice A3 n c3)
      rw [hw4, e] at this
      have hl := HL.out
      rw [hl]
      exact this
    · rw [← hw4]
      exact (HK2.out.below HB3.out HK2.out.lt).far (by show w.heap.size + 1 ≠ w.heap.size; omega) _
  obtain ⟨g, rfl, hS0⟩ := hST
  have HS0 := Lib.hid hS0
  clear c0 f0 d0 f1 hS0 HCN HK1 HK2 HB2 HS2 HO3 HB3
  simp only [hw4]
  clear hw4
  have x0 : w4.cell? ⟨w.heap.size, 0, none⟩ = some (.slice (some ⟨g, 0, none⟩) n c3) := by rw [← HL.out]; exact HS0.out.pl.cell 0
  go_wp2_with fail
  go_loopw [13] (fun s13 wr => ∃ j : Nat, j ≤ n ∧ s13 = .int .i64 j ∧ Hid (∃ ns' W hl, OwnS B0 w wr g c3 j en tp ns ns' W hl)) (fun s13 _ => n - (intOf s13).toNat)
  case atStart => exact ⟨0, Nat.zero_le _, rfl, Lib.hid ⟨_, _, _, HS0.out⟩⟩
  case round =>
    obtain ⟨j, hj, rfl, hs⟩ := hrel
    obtain ⟨ns', W, hl, H0⟩ := hs.out
    have H := Lib.hid H0
    clear hs H0
    clear x0
    have x0 : wr.cell? ⟨w.heap.size, 0, none⟩ = some (.slice (some ⟨g, 0, none⟩) n c3) := by rw [← HL.out]; exact H.out.pl.cell 0
    by_cases hlj : j < n
    · have hjl : j < ns'.length := by have h1 := H.out.eqv.len; have h2 := HL.out; omega
      obtain ⟨d, hd⟩ : ∃ d, ns'[j]? = some d := ⟨_, List.getElem?_eq_getElem hjl⟩
      have HD := Lib.hid hd
      have HDA := Lib.hid (H.out.own.node hd)
      have x4 : wr.cell? ⟨g, j * 7 + 4, none⟩ = some (.slice d.LA d.ln d.lc) := H.out.own.row.cell (flat_get2 hd 4 (by decide))
      have HCL := Lib.hid (sl_cloneL d.LA d.ln d.lc d.ls wr HDA.out.2.2.2.1 HDA.out.2.2.1 HDA.out.2.1)
      have hlm := HDA.out.2.2.1
      clear hd hjl
      go_wp2_with (go_at_call 43; (with_reducible refine HCL.out.mono ?_); rintro e w5 ⟨A5, c5, rfl, ho5, hA5, b5⟩; have HO5 := Lib.hid ho5; have HA5 := Lib.hid hA5; have HB5 := Lib.hid b5; clear ho5 hA5 b5)
      obtain ⟨h, hh⟩ : ∃ h, (0 < d.ln → A5 = some ⟨h, 0, none⟩ ∧ wr.heap.size ≤ h ∧ h < w5.heap.size ∧ d.ln ≤ c5 ∧ OwnK w5 w5 h c5 0 d.ls d.ls wr.heap.size) := by
        by_cases hp : 0 < d.ln
        · obtain ⟨h, e, q1, q2, _, q4⟩ := Rw.of_own HO5.out hp
          exact ⟨h, fun _ => ⟨e, q1, q4.lt, q2, q4, rfl, rfl, fun q l hq => absurd hq (by omega), fun q _ => rfl, Tch.refl _ _⟩⟩
        · exact ⟨0, fun q => absurd q hp⟩
      have HH := Lib.hid hh
      clear hh x0 x4
      obtain ⟨wo, rfl⟩ : ∃ wo : World, wo = wr := ⟨_, rfl⟩
      go_loopw [25] (fun s25 wr => ∃ k : Nat, k ≤ d.ln ∧ s25 = .int .i64 k ∧ Hid (∃ ls : List IS, (d.ln = 0 → wr = w5 ∧ ls = d.ls) ∧ (0 < d.ln → OwnK w5 wr h c5 k d.ls ls wo.heap.size))) (fun s25 _ => d.ln - (intOf s25).toNat)
      case atStart => exact ⟨0, Nat.zero_le _, rfl, Lib.hid ⟨d.ls, fun _ => ⟨rfl, rfl⟩, fun hp => (HH.out hp).2.2.2.2⟩⟩
      case round =>
        obtain ⟨k, hk, rfl, hks⟩ := hrel
        obtain ⟨ls, h0, h1⟩ := hks.out
        by_cases hlk : k < d.ln
        · obtain ⟨e5, q1, q2, q3, _⟩ := HH.out (by omega)
          have K := h1 (by omega)
          subst e5
          have hkl : k < d.ls.length := by rw [HDA.out.len]; exact hlk
          obtain ⟨l, hl0⟩ : ∃ l, d.ls[k]? = some l := ⟨_, List.getElem?_eq_getElem hkl⟩
          have hla := HDA.out.2.2.2.2.1 l (List.mem_of_getElem? hl0)
          have bi : Below wo.heap.size wo wr := HB5.out.trans (K.tch.below HB5.out.size (by rintro k rfl; exact q1))
          have hcl := sl_clone l.A l.n l.c l.xs wr ((hla.2.2.1.below bi).more bi.size) hla.1 (by have := hla.2.1; omega)
          have hlt : l.AtS wr (fun _ => True) .i64 := ((hla.below bi).s).mono fun _ _ => trivial
          have xk : wr.cell? ⟨h, k, none⟩ = some (.slice l.A l.n l.c) := K.row.cell (by rw [List.getElem?_map, K.rest k (Nat.le_refl _), hl0]; rfl)
          have fk : wr.frozen? ⟨h, k, none⟩ = false := K.row.frozen k
          have HCI := Lib.hid hcl
          have HNX := Lib.hid (fun (A : Option Addr) (n c : Nat) (w6 : World) (ho : OwnI w6 wr.heap.size A n c l.xs) (hb : Below wr.heap.size wr w6) => K.next (A := A) (n := n) (c := c) (w6 := w6) q1 hl0 hlt ho hb)
          clear hkl hl0 hla bi hcl hlt K h0 h1 hks q1 q2 q3
          go_wp2_with (go_at_call 27; (with_reducible refine HCI.out.mono ?_); rintro e w6 ⟨A6, n6, c6, rfl, ho6, b6⟩; obtain ⟨e6, f6, ⟨u6, x6⟩, K6⟩ := HNX.out A6 n6 c6 w6 ho6 b6; have HK6 := Lib.hid K6; have HE6 := Lib.hid e6; clear ho6 b6 e6 K6)
          go_roundw
          case rel => exact ⟨k + 1, by omega, by go_num, Lib.hid ⟨_, fun q => absurd q (by omega), fun _ => HK6.out⟩⟩
          case measure => simp [intOf]; omega
        · obtain rfl : k = d.ln := by omega
          have hstep := H.out.lists (h := h) (wi := wr) (c5 := c5) (A5 := A5) (ls := ls) HD.out HB5.out HA5.out
            (by
              by_cases hp : 0 < d.ln
              · rw [(h1 hp).len, HDA.out.len]
              · rw [(h0 (by omega)).2, HDA.out.len])
            (by
              by_cases hp : 0 < d.ln
              · exact (h1 hp).norm
              · rw [(h0 (by omega)).2])
            (fun e => ⟨(h0 e).1, rfl⟩)
            (by
              intro e
              rcases HO5.out.2 with ⟨q, _⟩ | ⟨x, cap, cur, q, _⟩
              · injection q with _ q2 q3
              · injection q with q1 _ _; exact absurd (e.symm.trans q1) (by simp))
            (fun hp => by obtain ⟨q1, q2, q3, q4, _⟩ := HH.out hp; exact ⟨q1, q2, q3, q4, h1 hp⟩)
          rw [HL.out] at hstep
          obtain ⟨y0, y4, f4, W', hl', HS8⟩ := hstep
          have HS8 := Lib.hid HS8
          clear h0 h1 hks HH
          go_upto_region 12 with fail
          obtain ⟨W8, hW8⟩ : ∃ x, wr.setCell ⟨g, j * 7 + 4, none⟩ (.slice A5 d.ln c5) = x := ⟨_, rfl⟩
          rw [hW8] at HS8 ⊢
          clear hW8 y0 y4 f4
          have hjl : j < ns'.length := (List.getElem?_eq_some_iff.1 HD.out).1
          have hd8 : (ns'.set j ⟨d.id, d.vec, d.tags, d.level, A5, d.ln, c5, ls, d.next, d.prev⟩)[j]? = some ⟨d.id, d.vec, d.tags, d.level, A5, d.ln, c5, ls, d.next, d.prev⟩ := List.getElem?_set_self hjl
          have hv8 : W8.drew.cell? ⟨g, 0 + j * 7 + 1, none⟩ = some (.slice d.vec.A d.vec.n d.vec.c) := by
            rw [Nat.zero_add]
            exact HS8.out.own.row.cell (flat_get2 hd8 1 (by decide))
          have k8 : W8.drew.cell? ⟨w.heap.size, 0, none⟩ = some (.slice (some ⟨g, 0, none⟩) n c3) := by rw [← HL.out]; exact HS8.out.pl.cell 0
          have hnd8 := HS8.out.own.node hd8
          have HVC := Lib.hid (fun (Y : World) (hY : Below W8.heap.size W8 Y) => sl_cloneV d.vec.A d.vec.n d.vec.c d.vec.xs Y ((hnd8.1.2.2.1.below hY).more hY.size) hnd8.1.2.1 hnd8.1.1)
          have HT1 : Hid (∀ Z1, Below W8.drew.heap.size W8.drew Z1 → Z1.cell? ⟨w.heap.size, 0, none⟩ = some (.slice (some ⟨g, 0, none⟩) n c3)) := fun Z1 b9 => (b9.cell (p := ⟨w.heap.size, 0, none⟩) HS8.out.pl.lt).trans k8
          have HT9 : Hid (∀ Z1 A9 c9, Z1.ownsRow W8.drew.heap.size 21 1 (.slice A9 d.vec.n c9) d.vec.n (d.vec.xs.map (.int .i32)) → (A9 = none ↔ d.vec.A = none) → Below W8.drew.heap.size W8.drew Z1 →
              Z1.cell? ⟨g, 0 + j * 7 + 1, none⟩ = some d.vec.v ∧ Z1.frozen? ⟨g, 0 + j * 7 + 1, none⟩ = false ∧ (Z1.setCell ⟨g, 0 + j * 7 + 1, none⟩ (.slice A9 d.vec.n c9)).cell? ⟨w.heap.size, 0, none⟩ = some (.slice (some ⟨g, 0, none⟩) n c3) ∧
              ∃ ns'' W'' hl'', OwnS B0 w (Z1.setCell ⟨g, 0 + j * 7 + 1, none⟩ (.slice A9 d.vec.n c9)) g c3 (j + 1) en tp ns ns'' W'' hl'') := by
            intro Z1 A9 c9 ho _ hb
            have := HS8.out.vec hd8 ho ((below_drewN (Below.refl _ W8) 1).trans hb)
            rw [HL.out] at this
            rw [Nat.zero_add]
            exact ⟨this.1, this.2.1, this.2.2.1, _, _, _, this.2.2.2⟩
          have hjn : j < n := hlj
          clear hd8 hnd8
          refine wp_region_held_drew (S := fun w' => w'.cell? ⟨w.heap.size, 0, none⟩ = some (.slice (some ⟨g, 0, none⟩) n c3)) (by kernel_rfl) k8 (fun hH => ?_)
          refine wpAnyH_take (i := 0) (v := .pointer (some ⟨w.heap.size, 0, none⟩)) rfl (by kernel_rfl) (by kernel_rfl) (by kernel_rfl) (fun _ _ _ h => h) (.inl ⟨by rfl, fun _ _ => by kernel_rfl⟩) hH ?_
          (try simp only [List.getElem_toArray, List.getElem_cons_zero, Act.put, List.setIfInBounds_toArray, List.set_cons_zero, List.set_cons_succ])
          refine wpAnyH_take (i := 1) (v := .slice (some ⟨g, 0, none⟩) n c3) rfl (by kernel_rfl) (by kernel_rfl) (by kernel_rfl) (fun _ _ _ h => h) (yieldsIf_loadP (by rfl) _ rfl rfl (fun _ q => load_nodes q)) hH ?_
          (try simp only [List.getElem_toArray, List.getElem_cons_zero, List.getElem_cons_succ, Act.put, List.setIfInBounds_toArray, List.set_cons_zero, List.set_cons_succ])
          refine wpAnyH_take (i := 2) (v := .int .i64 (j : Int)) rfl (by kernel_rfl) (by kernel_rfl) (by kernel_rfl) (fun _ _ _ h => h) (.inl ⟨by rfl, fun _ _ => by kernel_rfl⟩) hH ?_
          (try simp only [List.getElem_toArray, List.getElem_cons_zero, List.getElem_cons_succ, Act.put, List.setIfInBounds_toArray, List.set_cons_zero, List.set_cons_succ])
          refine wpAnyH_take (i := 3) (v := .pointer (some ⟨w.heap.size, 0, none⟩)) rfl (by kernel_rfl) (by kernel_rfl) (by kernel_rfl) (fun _ _ _ h => h) (.inl ⟨by rfl, fun _ _ => by kernel_rfl⟩) hH ?_
          (try simp only [List.getElem_toArray, List.getElem_cons_zero, List.getElem_cons_succ, Act.put, List.setIfInBounds_toArray, List.set_cons_zero, List.set_cons_succ])
          refine wpAnyH_take (i := 4) (v := .slice (some ⟨g, 0, none⟩) n c3) rfl (by kernel_rfl) (by kernel_rfl) (by kernel_rfl) (fun _ _ _ h => h) (yieldsIf_loadP (by rfl) _ rfl rfl (fun _ q => load_nodes q)) hH ?_
          (try simp only [List.getElem_toArray, List.getElem_cons_zero, List.getElem_cons_succ, Act.put, List.setIfInBounds_toArray, List.set_cons_zero, List.set_cons_succ])
          refine wpAnyH_take (i := 5) (v := .int .i64 (j : Int)) rfl (by kernel_rfl) (by kernel_rfl) (by kernel_rfl) (fun _ _ _ h => h) (.inl ⟨by rfl, fun _ _ => by kernel_rfl⟩) hH ?_
          (try simp only [List.getElem_toArray, List.getElem_cons_zero, List.getElem_cons_succ, Act.put, List.setIfInBounds_toArray, List.set_cons_zero, List.set_cons_succ])
          refine wpAnyH_take (i := 6) (v := .pointer (some ⟨g, 0 + j * 7, none⟩)) rfl (by kernel_rfl) (by kernel_rfl) (by kernel_rfl) (fun _ _ _ h => h) (yieldsIf_index Try.underlying25 sz_node (by rfl) _ _ rfl rfl rfl hjn) hH ?_
          (try simp only [List.getElem_toArray, List.getElem_cons_zero, List.getElem_cons_succ, Act.put, List.setIfInBounds_toArray, List.set_cons_zero, List.set_cons_succ])
          refine wpAnyH_take (i := 7) (v := .pointer (some ⟨g, 0 + j * 7, none⟩)) rfl (by kernel_rfl) (by kernel_rfl) (by kernel_rfl) (fun _ _ _ h => h) (.inl ⟨by rfl, fun _ _ => by kernel_rfl⟩) hH ?_
          (try simp only [List.getElem_toArray, List.getElem_cons_zero, List.getElem_cons_succ, Act.put, List.setIfInBounds_toArray, List.set_cons_zero, List.set_cons_succ])
          refine wpAnyH_take (i := 8) (v := .pointer (some ⟨g, 0 + j * 7 + 1, none⟩)) rfl (by kernel_rfl) (by kernel_rfl) (by kernel_rfl) (fun _ _ _ h => h) (.inl ⟨by rfl, fun _ _ => by kernel_rfl⟩) hH ?_
          (try simp only [List.getElem_toArray, List.getElem_cons_zero, List.getElem_cons_succ, Act.put, List.setIfInBounds_toArray, List.set_cons_zero, List.set_cons_succ])
          refine wpAnyH_value 9 (.slice d.vec.A d.vec.n d.vec.c) (by kernel_rfl) (by rfl) (by kernel_rfl) (exec_load (by rfl) (by rfl) (load_i32s hv8)) hH ?_
          (try simp only [List.getElem_toArray, List.getElem_cons_zero, List.getElem_cons_succ, Act.put, List.setIfInBounds_toArray, List.set_cons_zero, List.set_cons_succ])
          refine wpAnyH_call 10 24 #[.slice d.vec.A d.vec.n d.vec.c] _ (by kernel_rfl) (by rfl) (by kernel_rfl) (by kernel_rfl) (HVC.out W8.drew (below_drewN (Below.refl _ W8) 1)) ?_
          rintro e Z1 ⟨A9, c9, rfl, ho9, hA9, b9⟩
          have hZ : Z1.cell? ⟨w.heap.size, 0, none⟩ = some (.slice (some ⟨g, 0, none⟩) n c3) := HT1.out Z1 b9
          refine ⟨_, rfl, hZ, ?_⟩
          clear hH
          (try simp only [List.getElem_toArray, List.getElem_cons_zero, List.getElem_cons_succ, Act.put, List.setIfInBounds_toArray, List.set_cons_zero, List.set_cons_succ])
          refine wpAnyH_take (i := 11) (v := .pointer (some ⟨g, 0 + j * 7, none⟩)) rfl (by kernel_rfl) (by kernel_rfl) (by kernel_rfl) (fun _ _ _ h => h) (yieldsIf_index Try.underlying25 sz_node (by rfl) _ _ rfl rfl rfl hjn) hZ ?_
          (try simp only [List.getElem_toArray, List.getElem_cons_zero, List.getElem_cons_succ, Act.put, List.setIfInBounds_toArray, List.set_cons_zero, List.set_cons_succ])
          refine wpAnyH_take (i := 12) (v := .pointer (some ⟨g, 0 + j * 7, none⟩)) rfl (by kernel_rfl) (by kernel_rfl) (by kernel_rfl) (fun _ _ _ h => h) (.inl ⟨by rfl, fun _ _ => by kernel_rfl⟩) hZ ?_
          (try simp only [List.getElem_toArray, List.getElem_cons_zero, List.getElem_cons_succ, Act.put, List.setIfInBounds_toArray, List.set_cons_zero, List.set_cons_succ])
          refine wpAnyH_take (i := 13) (v := .pointer (some ⟨g, 0 + j * 7 + 1, none⟩)) rfl (by kernel_rfl) (by kernel_rfl) (by kernel_rfl) (fun _ _ _ h => h) (.inl ⟨by rfl, fun _ _ => by kernel_rfl⟩) hZ ?_
          (try simp only [List.getElem_toArray, List.getElem_cons_zero, List.getElem_cons_succ, Act.put, List.setIfInBounds_toArray, List.set_cons_zero, List.set_cons_succ])
          have hT9 := HT9.out Z1 A9 c9 ho9 hA9 b9
          have SR : (Instr.storeAt 30 (.pointer (some ⟨g, 0 + j * 7 + 1, none⟩)) (.slice A9 d.vec.n c9)).run Try.prog Z1 = .ok () (Z1.setCell ⟨g, 0 + j * 7 + 1, none⟩ (.slice A9 d.vec.n c9)) := store_i32s hT9.1 hT9.2.1
          have SK : (Z1.setCell ⟨g, 0 + j * 7 + 1, none⟩ (.slice A9 d.vec.n c9)).cell? ⟨w.heap.size, 0, none⟩ = some (.slice (some ⟨g, 0, none⟩) n c3) := hT9.2.2.1
          have HT99 := Lib.hid hT9.2.2.2
          clear hT9
          refine wpAnyH_store 14 _ _ _ (by kernel_rfl) (by rfl) (by kernel_rfl) (by rfl) (by rfl) (by rfl) (SR) (SK) ?_
          refine wpAnyH_done (by kernel_rfl) ?_ _
          rw [Nat.zero_add] at HT99
          go_wp2_with fail
          go_roundw
          case rel => exact ⟨j + 1, by omega, by go_num, HT99⟩
          case measure => simp [intOf]; omega
    · obtain rfl : j = n := by omega
      have LP := plane_load H.out.pl
      have SR := row_store H.out.res (pgL (some ⟨g, 0, none⟩) ns.length c3 en tp) rfl planeT (by simp [pgL, Value.oneCell'])
      rw [HL.out] at LP SR
      have HK : Hid (Blk (wr.setCells (w.heap.size + 1) 0 (pgL (some ⟨g, 0, none⟩) j c3 en tp).toList) (w.heap.size + 1) 27 (pgL (some ⟨g, 0, none⟩) j c3 en tp)) := H.out.res.put _ rfl
      have HF : Hid (OwnP (wr.setCells (w.heap.size + 1) 0 (pgL (some ⟨g, 0, none⟩) j c3 en tp).toList) (w.heap.size + 2) g c3 j W hl ns' ∧ Below w.heap.size w (wr.setCells (w.heap.size + 1) 0 (pgL (some ⟨g, 0, none⟩) j c3 en tp).toList)) :=
        ⟨H.out.own.off (x := w.heap.size + 1) (Tch.setCells (S := fun k => k = w.heap.size + 1) rfl _ _ _ (Tch.refl _ _)) (H.out.w2 _ (by omega) (by omega)) (by omega), below_setCells H.out.bel (Nat.le_refl _) (by omega) _ _⟩
      have HE := Lib.hid H.out.eqv
      have HW : Hid (∀ k, B0 ≤ k → k < w.heap.size → W k) := fun k q1 q2 => H.out.w2 k q1 (by omega)
      obtain ⟨wz, hwz⟩ : ∃ x, wr.setCells (w.heap.size + 1) 0 (pgL (some ⟨g, 0, none⟩) j c3 en tp).toList = x := ⟨_, rfl⟩
      rw [hwz] at SR HK HF
      clear hwz x0
      unfold pgL at LP SR
      go_wp2_with (first | ((with_reducible refine wpList_loadE (op := ⟨some 58, _, _, _, _, _⟩) LP ?leX ?leG ?leO ?leE ?_); (case leO => exact rfl); (case leE => exact rfl); (case leG => exact rfl)) | refine wpList_storeE SR _ _ rfl rfl rfl rfl ?_)
      refine bodyPost_ret (v := .agg (pgL (some ⟨g, 0, none⟩) j c3 en tp)) ?_ rfl ⟨w.heap.size + 2, g, c3, W, hl, ns', by rw [HL.out], by omega, by rw [HL.out]; exact HF.out.1, HE.out, HW.out, HF.out.2⟩
      exact results_cell_row Try.results23 _ _ (w.heap.size + 1) 27 _ (0, 0) _ rfl HK.out Try.underlying27 rfl planeT
theorem load_u64 {w : World} {b o : Nat} {v : Int} (h : w.cell? ⟨b, o, none⟩ = some (.int .u64 v)) : (Instr.loadAt 29 (.pointer (some ⟨b, o, none⟩))).run Try.prog w = .ok (.int .u64 v) w := by
  simp [go_sem, h]
/-- An item's cells. -/
def itL (id : Int) (vA : Option Addr) (vn vc : Nat) (tags : Int) : Array Value := #[.int .u64 id, .slice vA vn vc, .int .u64 tags]
set_option maxRecDepth 100000 in
set_option maxHeartbeats 1000000 in
theorem put_cl (k : Nat) (A : Option Addr) (n c : Nat) (ns : List ND) (en tp : Int) (id : Int) (vA : Option Addr) (vn vc : Nat) (tags : Int) (t1 t2 : Nat) (W : World) (hg : PgAt W W.heap.size A n c ns) (hk : k < n)
    (k1 : Blk W t1 27 (pgL A n c en tp)) (k2 : Blk W t2 32 (itL id vA vn vc tags)) :
    Calls Try.prog 22 #[.int .i64 k, .pointer (some ⟨t1, 0, none⟩), .pointer (some ⟨t2, 0, none⟩)] W (RetB ((nAt ns k).id == id) W) := by
  obtain ⟨b, o, rfl, hb, hid⟩ := hg.ids hk
  have HID : Hid (∀ Y, Below W.heap.size W Y → Y.cell? ⟨b, o + k * 7, none⟩ = some (.int .u64 (nAt ns k).id)) := fun Y hY => (hY.cell (p := ⟨b, o + k * 7, none⟩) hb).trans hid
  have K1 := Lib.hid k1
  have K2 := Lib.hid k2
  have hn := hg.2.1
  clear hg k1 k2 hid hb
  go_enter Try.func22, Try.ntmps22
  go_wp2_with fail
  refine wp_region_held_drew (S := fun w' => Below W.heap.size W w') (by kernel_rfl) (below_drewN (Below.refl _ W) 1) (fun hH => ?_)
  refine wpAnyH_take (i := 0) (v := .pointer (some ⟨t1, 0, none⟩)) rfl (by kernel_rfl) (by kernel_rfl) (by kernel_rfl) (fun _ _ _ h => h) (.inl ⟨by rfl, fun _ _ => by kernel_rfl⟩) hH ?_
  (try simp only [List.getElem_toArray, List.getElem_cons_zero, Act.put, List.setIfInBounds_toArray, List.set_cons_zero, List.set_cons_succ])
  refine wpAnyH_take (i := 1) (v := .slice (some ⟨b, o, none⟩) n c) rfl (by kernel_rfl) (by kernel_rfl) (by kernel_rfl) (fun _ _ _ h => h) (yieldsIf_loadP (by rfl) _ rfl rfl (fun _ q => load_nodes ((K1.out.below q K1.out.lt).cell 0))) hH ?_
  (try simp only [List.getElem_toArray, List.getElem_cons_zero, List.getElem_cons_succ, Act.put, List.setIfInBounds_toArray, List.set_cons_zero, List.set_cons_succ])
  refine wpAnyH_take (i := 2) (v := .int .i64 (k : Int)) rfl (by kernel_rfl) (by kernel_rfl) (by kernel_rfl) (fun _ _ _ h => h) (.inl ⟨by rfl, fun _ _ => by kernel_rfl⟩) hH ?_
  (try simp only [List.getElem_toArray, List.getElem_cons_zero, List.getElem_cons_succ, Act.put, List.setIfInBounds_toArray, List.set_cons_zero, List.set_cons_succ])
  refine wpAnyH_take (i := 3) (v := .pointer (some ⟨b, o + k * 7, none⟩)) rfl (by kernel_rfl) (by kernel_rfl) (by kernel_rfl) (fun _ _ _ h => h) (yieldsIf_index Try.underlying25 sz_node (by rfl) _ _ rfl rfl rfl hk) hH ?_
  (try simp only [List.getElem_toArray, List.getElem_cons_zero, List.getElem_cons_succ, Act.put, List.setIfInBounds_toArray, List.set_cons_zero, List.set_cons_succ])
  refine wpAnyH_take (i := 4) (v := .pointer (some ⟨b, o + k * 7, none⟩)) rfl (by kernel_rfl) (by kernel_rfl) (by kernel_rfl) (fun _ _ _ h => h) (.inl ⟨by rfl, fun _ _ => by kernel_rfl⟩) hH ?_
  (try simp only [List.getElem_toArray, List.getElem_cons_zero, List.getElem_cons_succ, Act.put, List.setIfInBounds_toArray, List.set_cons_zero, List.set_cons_succ])
  refine wpAnyH_take (i := 5) (v := .pointer (some ⟨b, o + k * 7, none⟩)) rfl (by kernel_rfl) (by kernel_rfl) (by kernel_rfl) (fun _ _ _ h => h) (.inl ⟨by rfl, fun _ _ => by kernel_rfl⟩) hH ?_
  (try simp only [List.getElem_toArray, List.getElem_cons_zero, List.getElem_cons_succ, Act.put, List.setIfInBounds_toArray, List.set_cons_zero, List.set_cons_succ])
  refine wpAnyH_take (i := 6) (v := .int .u64 (nAt ns k).id) rfl (by kernel_rfl) (by kernel_rfl) (by kernel_rfl) (fun _ _ _ h => h) (yieldsIf_loadP (by rfl) _ rfl rfl (fun _ q => load_u64 (HID.out _ q))) hH ?_
  (try simp only [List.getElem_toArray, List.getElem_cons_zero, List.getElem_cons_succ, Act.put, List.setIfInBounds_toArray, List.set_cons_zero, List.set_cons_succ])
  refine wpAnyH_take (i := 7) (v := .pointer (some ⟨t2, 0, none⟩)) rfl (by kernel_rfl) (by kernel_rfl) (by kernel_rfl) (fun _ _ _ h => h) (.inl ⟨by rfl, fun _ _ => by kernel_rfl⟩) hH ?_
  (try simp only [List.getElem_toArray, List.getElem_cons_zero, List.getElem_cons_succ, Act.put, List.setIfInBounds_toArray, List.set_cons_zero, List.set_cons_succ])
  refine wpAnyH_take (i := 8) (v := .int .u64 id) rfl (by kernel_rfl) (by kernel_rfl) (by kernel_rfl) (fun _ _ _ h => h) (yieldsIf_loadP (by rfl) _ rfl rfl (fun _ q => load_u64 ((K2.out.below q K2.out.lt).cell 0))) hH ?_
  (try simp only [List.getElem_toArray, List.getElem_cons_zero, List.getElem_cons_succ, Act.put, List.setIfInBounds_toArray, List.set_cons_zero, List.set_cons_succ])
  refine wpAnyH_take (i := 9) (v := .bool ((nAt ns k).id == id)) rfl (by kernel_rfl) (by kernel_rfl) (by kernel_rfl) (fun _ _ _ h => h) (yieldsIf_eqlR (by rfl) _ _ rfl rfl rfl rfl) hH ?_
  (try simp only [List.getElem_toArray, List.getElem_cons_zero, List.getElem_cons_succ, Act.put, List.setIfInBounds_toArray, List.set_cons_zero, List.set_cons_succ])
  refine wpAnyH_take (i := 10) (v := .bool ((nAt ns k).id == id)) rfl (by kernel_rfl) (by kernel_rfl) (by kernel_rfl) (fun _ _ _ h => h) (.inl ⟨by rfl, fun _ _ => by kernel_rfl⟩) hH ?_
  (try simp only [List.getElem_toArray, List.getElem_cons_zero, List.getElem_cons_succ, Act.put, List.setIfInBounds_toArray, List.set_cons_zero, List.set_cons_succ])
  refine wpAnyH_done (by kernel_rfl) ?_ _
  have HB := Lib.hid hH
  clear hH
  go_wp2_with fail
  go_ret
  exact ⟨rfl, HB.out⟩
/-- Whether an id is there. -/
def hasId (ns : List ND) (id : Int) : Bool := (liveI ns).any fun x => idI ns x == id
/-- The least slot that is not there: behind the first j that are. -/
def slotJ (ns : List ND) (j : Nat) : Nat := ((liveI ns).take j).foldl (fun s x => if x == (s : Int) then s + 1 else s) 1
def slotI (ns : List ND) : Nat := slotJ ns (liveI ns).length
theorem slotJ_succ {ns : List ND} {j : Nat} (hj : j < (liveI ns).length) : slotJ ns (j + 1) = if ig (liveI ns) j == (slotJ ns j : Int) then slotJ ns j + 1 else slotJ ns j := by
  unfold slotJ
  rw [take_step hj, List.foldl_append]
  rfl
theorem slotJ_le (ns : List ND) : ∀ j, 1 ≤ slotJ ns j ∧ slotJ ns j ≤ j + 1
  | 0 => by unfold slotJ; simp
  | j + 1 => by
    by_cases hj : j < (liveI ns).length
    · rw [slotJ_succ hj]
      have := slotJ_le ns j
      split <;> omega
    · have e : slotJ ns (j + 1) = slotJ ns j := by unfold slotJ; rw [List.take_of_length_le (by omega), List.take_of_length_le (by omega)]
      rw [e]
      have := slotJ_le ns j
      omega
/-- A struct and two temporaries, returned. -/
theorem results_row12 {P : Program} {fn : Func} {p u v : Tmp} {t1 : TypeId} (h : fn.results = #[.cell p t1, .tmp u, .tmp v]) (tmps : Array Value) {w : World} {g1 : Nat} {c1 : Array Value} {d1 : TypeDesc}
    (hp : tmps.getD p undef = .pointer (some ⟨g1, 0, none⟩)) {u1 : Nat} (b1 : Blk w g1 u1 c1)
    (hu1 : P.underlying t1 = some d1) (hd1 : (match d1 with | .struct _ | .array _ _ => true | _ => false) = true) (hi1 : (P.info? t1).map (·.size) = some c1.size) :
    (results fn tmps).run P w = .ok (.tuple #[.agg c1, tmps.getD u undef, tmps.getD v undef]) w := by
  have hp' : tmps[p]?.getD undef = .pointer (some ⟨g1, 0, none⟩) := by simpa using hp
  simp [results, h, hp', asAddr, run_loadVar_row w g1 u1 t1 c1 (0, 0) d1 b1 hu1 hd1 hi1, Result.andThen]
theorem results_row11 {P : Program} {fn : Func} {p u : Tmp} {t1 : TypeId} (h : fn.results = #[.cell p t1, .tmp u]) (tmps : Array Value) {w : World} {g1 : Nat} {c1 : Array Value} {d1 : TypeDesc}
    (hp : tmps.getD p undef = .pointer (some ⟨g1, 0, none⟩)) {u1 : Nat} (b1 : Blk w g1 u1 c1)
    (hu1 : P.underlying t1 = some d1) (hd1 : (match d1 with | .struct _ | .array _ _ => true | _ => false) = true) (hi1 : (P.info? t1).map (·.size) = some c1.size) :
    (results fn tmps).run P w = .ok (.tuple #[.agg c1, tmps.getD u undef]) w := by
  have hp' : tmps[p]?.getD undef = .pointer (some ⟨g1, 0, none⟩) := by simpa using hp
  simp [results, h, hp', asAddr, run_loadVar_row w g1 u1 t1 c1 (0, 0) d1 b1 hu1 hd1 hi1, Result.andThen]
/-- In a region that draws: the one operation that may come up next yields its value, and makes memory. -/
theorem wpAnyH_make {P : Program} {ops : Array Oper} {Q : Exit → Act → World → Prop} {md : Region.Mode} {S : World → Prop} {fuel : Nat} {listed : Array Bool} {a : Act} {w w' : World} {o : Oper} (i : Nat) (v : Value) (hr : Region.ready md ops listed = [i]) (ho : ops[i]? = some o) (hw : Region.wanted o (yielded ops a.tmps) = true)
    (hrun : (execOp a.eval o).run P w = .ok (.value v) w') (hS : S w') (h : wpAnyH P md ops Q S fuel (listed.setIfInBounds i true) (a.put o.dst v) w') : wpAnyH P md ops Q S (fuel + 1) listed a w := by
  refine wpAnyH_ready hr (by simp) (AllReadyH.cons ho (fun K hK => ?_) AllReadyH.nil)
  rw [if_pos hw]
  unfold Oper.wp
  rw [hrun]
  exact hK.out _ _ hS (fun _ => h)
/-- A plane that is told. -/
def RetG (P : List ND → Prop) (en tp : Int) (w : World) (e : Ending) (w' : World) : Prop := ∃ g n c ns, e = .returned (.agg (pgL (some ⟨g, 0, none⟩) n c en tp)) ∧ PgAt w' w'.heap.size (some ⟨g, 0, none⟩) n c ns ∧ P ns ∧ Below w.heap.size w w'
theorem nd0_at (w : World) (B : Nat) : nd0.At w B := ⟨⟨fun _ => ⟨rfl, rfl⟩, Nat.zero_le _, Rd.nil_, (fun x hx => by cases hx)⟩, fun _ => ⟨rfl, rfl⟩, Nat.zero_le _, Rs.nil_, (fun l hl => by cases hl), rfl, rfl, rfl, rfl, (fun l hl => by cases hl)⟩
set_option maxRecDepth 100000 in
theorem pl_new (w : World) : Calls Try.prog 6 #[] w (RetG (fun ns => ns = [nd0]) 0 0 w) := by
  obtain ⟨w1, hw1⟩ : ∃ x, w.alloc (.cells (pgL none 0 0 0 0) 27) = x := ⟨_, rfl⟩
  obtain ⟨k1, b1⟩ := box_plane hw1
  obtain ⟨w2, hw2⟩ : ∃ x, w1.alloc (.cells nd0.cells 49) = x := ⟨_, rfl⟩
  have b2 : Below w1.heap.size w1 w2 := by rw [← hw2]; exact bel_box _ _
  have k2 : Blk w2 w1.heap.size 49 nd0.cells := by rw [← hw2]; exact Blk.new _ _ _
  have kp := k1.below b2 k1.lt
  have SR := row_store kp (pgL (some ⟨w1.heap.size, 0, none⟩) 1 1 0 0) rfl planeT (by simp [pgL, Value.oneCell'])
  obtain ⟨w3, hw3⟩ : ∃ x, w2.setCells w.heap.size 0 (pgL (some ⟨w1.heap.size, 0, none⟩) 1 1 0 0).toList = x := ⟨_, rfl⟩
  have hT : Tch (fun k => k = w.heap.size) w2 w3 := by rw [← hw3]; exact Tch.setCells (S := fun k => k = w.heap.size) rfl _ _ _ (Tch.refl _ _)
  have hs1 := k1.lt
  have k3 := k2.tch hT (by omega)
  have kr : Blk w3 w.heap.size 27 (pgL (some ⟨w1.heap.size, 0, none⟩) 1 1 0 0) := by rw [← hw3]; exact kp.put _ rfl
  have HB : Hid (Below w.heap.size w w3) := by
    show Below _ _ _
    rw [← hw3]; exact below_setCells (b1.trans (b2.mono b1.size)) (Nat.le_refl _) (Nat.le_refl _) _ _
  have HG : Hid (PgAt w3 w3.heap.size (some ⟨w1.heap.size, 0, none⟩) 1 1 [nd0]) := by
    refine ⟨fun e => (by cases e), by decide, ⟨rfl, cells7 [nd0], fun _ => ⟨w1.heap.size, 0, rfl, k3.lt, fun i c hi j v hv => ?_⟩⟩, fun d hd => ?_⟩
    · cases i with
      | zero =>
        injection hi with hi
        subst hi
        rw [Nat.zero_mul, Nat.add_zero, Nat.zero_add, k3.cell, ← Array.getElem?_toList]
        exact hv
      | succ i => cases hi
    · obtain rfl : d = nd0 := by simpa using hd
      exact nd0_at _ _
  have HK := Lib.hid kr
  rw [hw3] at SR
  clear hT k3 kr kp b1 b2 k1 k2 hw3 hs1
  rw [nd0_lit] at hw2
  rw [planeZ] at hw1
  unfold pgL at SR
  go_enter Try.func6, Try.ntmps6
  go_upto_region 1 with fail
  (try rw [hw1])
  clear hw1
  go_wp2_with (refine wpList_storeE SR _ _ rfl rfl rfl rfl ?_)
  refine bodyPost_ret (v := .agg (pgL (some ⟨w1.heap.size, 0, none⟩) 1 1 0 0)) ?_ rfl ⟨w1.heap.size, 1, 1, [nd0], rfl, HG.out, rfl, HB.out⟩
  exact results_cell_row Try.results6 _ _ w.heap.size 27 _ (0, 0) _ rfl HK.out Try.underlying27 rfl planeT
theorem getElem_nAt {ns : List ND} {i : Nat} (h : i < ns.length) : ns[i]? = some (nAt ns i) := by rw [nAt_of (List.getElem?_eq_getElem h)]; exact List.getElem?_eq_getElem h
/-- A node's place in the ring is another one. -/
theorem OwnP.setNext {w : World} {B g c m : Nat} {W : Nat → Prop} {hl : Nat → Nat} {ns : List ND} (h : OwnP w B g c m W hl ns) {i : Nat} (hi : i < ns.length) {v : Int} (hv : (Lit.int .i64 v).wf = true) :
    w.cell? ⟨g, i * 7 + 5, none⟩ = some (.int .i64 (nAt ns i).next) ∧ w.frozen? ⟨g, i * 7 + 5, none⟩ = false ∧ OwnP (w.setCell ⟨g, i * 7 + 5, none⟩ (.int .i64 v)) B g c m W hl (ns.set i { nAt ns i with next := v }) := by
  have hd := getElem_nAt hi
  have hT : Tch (fun k => k = g) w (w.setCell ⟨g, i * 7 + 5, none⟩ (.int .i64 v)) := Tch.setCell (S := fun k => k = g) (Tch.refl _ _) rfl _ _
  have hsz : (w.setCell ⟨g, i * 7 + 5, none⟩ (.int .i64 v)).heap.size = w.heap.size := by simp [World.setCell]
  refine ⟨h.row.cell (flat_get2 hd 5 (by decide)), h.row.frozen _, h.same hT hd ?_ ⟨rfl, rfl, rfl, rfl⟩ ?_⟩
  · have := h.row.set_ (i * 7 + 5) (.int .i64 v)
    rw [flat_set (k := 5) (d' := { nAt ns i with next := v }) hd (by decide) rfl] at this
    exact this
  · have hn := (h.nd i _ hd).tch hT fun b hb => ⟨hb.1, fun e => hb.2 (e ▸ h.wg)⟩
    exact ⟨hn.1.mono fun b hb => ⟨by omega, .inl hb⟩, hn.2.1, hn.2.2.1, hn.2.2.2.1, fun l hl => (hn.2.2.2.2.1 l hl).mono fun b hb => ⟨by omega, .inl hb⟩, hn.2.2.2.2.2.1, hn.2.2.2.2.2.2.1, hv, hn.2.2.2.2.2.2.2.2.1, hn.2.2.2.2.2.2.2.2.2⟩
theorem OwnP.setPrev {w : World} {B g c m : Nat} {W : Nat → Prop} {hl : Nat → Nat} {ns : List ND} (h : OwnP w B g c m W hl ns) {i : Nat} (hi : i < ns.length) {v : Int} (hv : (Lit.int .i64 v).wf = true) :
    w.cell? ⟨g, i * 7 + 6, none⟩ = some (.int .i64 (nAt ns i).prev) ∧ w.frozen? ⟨g, i * 7 + 6, none⟩ = false ∧ OwnP (w.setCell ⟨g, i * 7 + 6, none⟩ (.int .i64 v)) B g c m W hl (ns.set i { nAt ns i with prev := v }) := by
  have hd := getElem_nAt hi
  have hT : Tch (fun k => k = g) w (w.setCell ⟨g, i * 7 + 6, none⟩ (.int .i64 v)) := Tch.setCell (S := fun k => k = g) (Tch.refl _ _) rfl _ _
  have hsz : (w.setCell ⟨g, i * 7 + 6, none⟩ (.int .i64 v)).heap.size = w.heap.size := by simp [World.setCell]
  refine ⟨h.row.cell (flat_get2 hd 6 (by decide)), h.row.frozen _, h.same hT hd ?_ ⟨rfl, rfl, rfl, rfl⟩ ?_⟩
  · have := h.row.set_ (i * 7 + 6) (.int .i64 v)
    rw [flat_set (k := 6) (d' := { nAt ns i with prev := v }) hd (by decide) rfl] at this
    exact this
  · have hn := (h.nd i _ hd).tch hT fun b hb => ⟨hb.1, fun e => hb.2 (e ▸ h.wg)⟩
    exact ⟨hn.1.mono fun b hb => ⟨by omega, .inl hb⟩, hn.2.1, hn.2.2.1, hn.2.2.2.1, fun l hl => (hn.2.2.2.2.1 l hl).mono fun b hb => ⟨by omega, .inl hb⟩, hn.2.2.2.2.2.1, hn.2.2.2.2.2.2.1, hn.2.2.2.2.2.2.2.1, hv, hn.2.2.2.2.2.2.2.2.2⟩
/-- A plane under way: its own memory, and the boxes of a plane and of what is told. -/
structure PtS (w wr : World) (r B g c : Nat) (en tp : Int) (W : Nat → Prop) (hl : Nat → Nat) (ns : List ND) : Prop where
  own : OwnP wr B g c ns.length W hl ns
  bel : Below w.heap.size w wr
  pl : Blk wr w.heap.size 27 (pgL (some ⟨g, 0, none⟩) ns.length c en tp)
  res : Blk wr r 27 (pgL none 0 0 0 0)
  wl : ∀ k, w.heap.size ≤ k → k ≤ r → W k
  bB : r < B ∧ w.heap.size < r ∧ B ≤ wr.heap.size
theorem PtS.start {w w6 w7 : World} {r B g c n : Nat} {en tp en0 tp0 : Int} {A0 : Option Addr} {n0 c0 : Nat} {W : Nat → Prop} {hl : Nat → Nat} {ns' : List ND} (hB : w6.heap.size ≤ B) (ho : OwnP w7 B g c n W hl ns') (hn : ns'.length = n) (hw : ∀ k, w.heap.size ≤ k → k < w6.heap.size → W k)
    (hb : Below w6.heap.size w6 w7) (h6 : Below w.heap.size w w6) (hp : Blk w6 w.heap.size 27 (pgL A0 n0 c0 en0 tp0)) (hr : Blk w6 r 27 (pgL none 0 0 0 0)) (hwr : w.heap.size < r) (hBB : B ≤ w7.heap.size) :
    PtS w (w7.setCells w.heap.size 0 (pgL (some ⟨g, 0, none⟩) n c en tp).toList) r B g c en tp W hl ns' := by
  subst hn
  have hr6 := hr.lt
  have hp7 := hp.below hb hp.lt
  have hr7 := hr.below hb hr.lt
  have hsz := h6.size
  have hT : Tch (fun k => k = w.heap.size) w7 (w7.setCells w.heap.size 0 (pgL (some ⟨g, 0, none⟩) ns'.length c en tp).toList) := Tch.setCells (S := fun k => k = w.heap.size) rfl _ _ _ (Tch.refl _ _)
  have hs := hT.size
  exact ⟨ho.off hT (hw _ (Nat.le_refl _) (by omega)) (by omega), below_setCells (h6.trans (hb.mono hsz)) (Nat.le_refl _) (Nat.le_refl _) _ _, hp7.put _ rfl, hr7.tch hT (by omega), fun k q1 q2 => hw k q1 (by omega), by omega, hwr, by omega⟩
/-- Memory more, and nothing else. -/
theorem PtS.more {w wr w' : World} {r B g c : Nat} {en tp : Int} {W : Nat → Prop} {hl : Nat → Nat} {ns : List ND} (H : PtS w wr r B g c en tp W hl ns) (hb : Below wr.heap.size wr w') : PtS w w' r B g c en tp W hl ns :=
  ⟨H.own.below hb, H.bel.trans (hb.mono H.bel.size), H.pl.below hb H.pl.lt, H.res.below hb H.res.lt, H.wl, H.bB.1, H.bB.2.1, Nat.le_trans H.bB.2.2 hb.size⟩
/-- A node more. -/
theorem PtS.grow {w wr w' : World} {r B g g' c c' : Nat} {en tp : Int} {W : Nat → Prop} {hl : Nat → Nat} {ns : List ND} (H : PtS w wr r B g c en tp W hl ns) (hT : Tch (fun k => k = g) wr w') (hg : g' = g ∨ wr.heap.size ≤ g')
    (ho : w'.ownsRow B 49 7 (.slice (some ⟨g', 0, none⟩) (ns.length + 1) c') (ns.length + 1) (flat ns ++ nd0.cells.toList)) (hs : ns.length + 1 ≤ 1048576) :
    w'.cell? ⟨w.heap.size, 0, none⟩ = some (.slice (some ⟨g, 0, none⟩) ns.length c) ∧ w'.frozen? ⟨w.heap.size, 0, none⟩ = false ∧ ∃ W', PtS w (w'.setCell ⟨w.heap.size, 0, none⟩ (.slice (some ⟨g', 0, none⟩) (ns.length + 1) c')) r B g' c' en tp W' hl (ns ++ [nd0]) := by
  have hgB := H.own.gB
  have hbB := H.bB
  have hsz := H.bel.size
  have hszT := hT.size
  obtain ⟨g2, e, q1, q2, q3, hr⟩ := Rw.of_own ho (by omega)
  injection e with e
  injection e with e
  subst e
  rw [← flat_append] at hr
  have P := H.pl.tch hT (by omega)
  have R := H.res.tch hT (by omega)
  obtain ⟨W', O, hW⟩ := H.own.append hT hg H.bB.2.2 hr ⟨q2, q3⟩ hs rfl
  have hT2 : Tch (fun k => k = w.heap.size) w' (w'.setCell ⟨w.heap.size, 0, none⟩ (.slice (some ⟨g', 0, none⟩) (ns.length + 1) c')) := Tch.setCell (S := fun k => k = w.heap.size) (Tch.refl _ _) rfl _ _
  have hs2 := hT2.size
  have hb : Below w.heap.size w w' := H.bel.trans (hT.below hsz (by rintro k rfl; omega))
  refine ⟨P.cell 0, P.frozen 0, W', ?_, ?_, ?_, ?_, fun k p1 p2 => hW k (H.wl k p1 p2), by omega, by omega, by omega⟩
  · rw [List.length_append, List.length_singleton]
    exact O.off hT2 (hW _ (H.wl _ (Nat.le_refl _) (by omega))) (by omega)
  · exact hb.setCell (Nat.le_refl _) _
  · have := P.set_ 0 (.slice (some ⟨g', 0, none⟩) (ns.length + 1) c')
    rw [List.length_append, List.length_singleton]
    exact this
  · exact R.tch hT2 (by omega)
/-- A node is put, with new lists and a new vector. -/
theorem PtS.node {w wr w' : World} {r B g c : Nat} {en tp : Int} {W : Nat → Prop} {hl : Nat → Nat} {ns : List ND} (H : PtS w wr r B g c en tp W hl ns) (hb : Below wr.heap.size wr w') {i : Nat} (hi : i < ns.length) {d : ND} {h : Nat}
    (hh : wr.heap.size ≤ h) (hd : NdS w' (fun k => k < w'.heap.size ∧ ((k < wr.heap.size ∧ ¬ W k) ∨ (wr.heap.size ≤ k ∧ k ≠ h))) d) (hL : d.LA = some ⟨h, 0, none⟩ ∧ d.ln ≤ d.lc ∧ Rw w' h 23 (d.lc * 1) (d.ls.map IS.v)) :
    w'.there g (i * 7) 7 ∧ ∃ W' hl', PtS w (w'.setCells g (i * 7) d.cells.toList) r B g c en tp W' hl' (ns.set i d) := by
  have hgB := H.own.gB
  have hbB := H.bB
  have hsz := H.bel.size
  have hszb := hb.size
  have hgl := H.own.row.lt
  have Rg : Rw w' g 49 (c * 7) (flat ns) := H.own.row.at_ (hb.block _ hgl)
  have hT : Tch (fun k => k = g) wr (w'.setCells g (i * 7) d.cells.toList) := Tch.setCells (S := fun k => k = g) rfl _ _ _ (Tch.of_below hb)
  have hT2 : Tch (fun k => k = g) w' (w'.setCells g (i * 7) d.cells.toList) := Tch.setCells (S := fun k => k = g) rfl _ _ _ (Tch.refl _ _)
  have hs2 := hT2.size
  have hx := getElem_nAt hi
  refine ⟨fun j hj => ⟨?_, Rg.frozen _⟩, ?_⟩
  · rw [Rg.cell (flat_get2 hx j hj |>.trans (List.getElem?_eq_getElem (by rw [cells_len]; exact hj)))]; rfl
  obtain ⟨W', hl', O, hW⟩ := H.own.step (w' := w'.setCells g (i * 7) d.cells.toList) hT (i := i) (d' := d) (m' := ns.length) hi (.inl rfl) hi H.bB.2.2 (by have := Rg.setCells d.cells.toList (i * 7); rw [flat_setL hi] at this; exact this)
    ((hd.tch hT2 fun b hb => ⟨hb.1, by
      rcases hb.2 with q | q
      · intro e; exact q.2 (e ▸ H.own.wg)
      · omega⟩).mono fun b q => ⟨by omega, by
      rcases q.2 with q | q
      · exact .inl q
      · exact .inr ⟨q.1, by rw [hL.1]; intro e; injection e with e; injection e with e; exact q.2 e.symm⟩⟩)
    (fun _ => by
      obtain ⟨e1, e2, e3⟩ := hL
      exact ⟨h, e1, hh, e2, e3.at_ (hT2.block _ e3.lt (by omega))⟩)
  refine ⟨W', hl', by rw [List.length_set]; exact O, below_setCells (H.bel.trans (hb.mono hsz)) (Nat.le_refl _) (by omega) _ _, ?_, (H.res.below hb H.res.lt).tch hT2 (by omega), fun k p1 p2 => hW k (H.wl k p1 p2), hbB.1, hbB.2.1, by omega⟩
  rw [List.length_set]
  exact (H.pl.below hb H.pl.lt).tch hT2 (by omega)
theorem PtS.next {w wr : World} {r B g c : Nat} {en tp : Int} {W : Nat → Prop} {hl : Nat → Nat} {ns : List ND} (H : PtS w wr r B g c en tp W hl ns) {i : Nat} (hi : i < ns.length) {v : Int} (hv : (Lit.int .i64 v).wf = true) :
    wr.cell? ⟨g, i * 7 + 5, none⟩ = some (.int .i64 (nAt ns i).next) ∧ wr.frozen? ⟨g, i * 7 + 5, none⟩ = false ∧ PtS w (wr.setCell ⟨g, i * 7 + 5, none⟩ (.int .i64 v)) r B g c en tp W hl (ns.set i { nAt ns i with next := v }) := by
  obtain ⟨h1, h2, h3⟩ := H.own.setNext hi hv
  have hgB := H.own.gB
  have hbB := H.bB
  have hT : Tch (fun k => k = g) wr (wr.setCell ⟨g, i * 7 + 5, none⟩ (.int .i64 v)) := Tch.setCell (S := fun k => k = g) (Tch.refl _ _) rfl _ _
  have hs := hT.size
  refine ⟨h1, h2, by rw [List.length_set]; exact h3, H.bel.setCell (by show w.heap.size ≤ g; omega) _, by rw [List.length_set]; exact H.pl.tch hT (by omega), H.res.tch hT (by omega), H.wl, hbB.1, hbB.2.1, by omega⟩
theorem PtS.prev {w wr : World} {r B g c : Nat} {en tp : Int} {W : Nat → Prop} {hl : Nat → Nat} {ns : List ND} (H : PtS w wr r B g c en tp W hl ns) {i : Nat} (hi : i < ns.length) {v : Int} (hv : (Lit.int .i64 v).wf = true) :
    wr.cell? ⟨g, i * 7 + 6, none⟩ = some (.int .i64 (nAt ns i).prev) ∧ wr.frozen? ⟨g, i * 7 + 6, none⟩ = false ∧ PtS w (wr.setCell ⟨g, i * 7 + 6, none⟩ (.int .i64 v)) r B g c en tp W hl (ns.set i { nAt ns i with prev := v }) := by
  obtain ⟨h1, h2, h3⟩ := H.own.setPrev hi hv
  have hgB := H.own.gB
  have hbB := H.bB
  have hT : Tch (fun k => k = g) wr (wr.setCell ⟨g, i * 7 + 6, none⟩ (.int .i64 v)) := Tch.setCell (S := fun k => k = g) (Tch.refl _ _) rfl _ _
  have hs := hT.size
  refine ⟨h1, h2, by rw [List.length_set]; exact h3, H.bel.setCell (by show w.heap.size ≤ g; omega) _, by rw [List.length_set]; exact H.pl.tch hT (by omega), H.res.tch hT (by omega), H.wl, hbB.1, hbB.2.1, by omega⟩
/-- A block that is neither the plane's nor what is told is written. -/
theorem PtS.off {w wr w' : World} {r B g c x : Nat} {en tp : Int} {W : Nat → Prop} {hl : Nat → Nat} {ns : List ND} (H : PtS w wr r B g c en tp W hl ns) (hT : Tch (fun k => k = x) wr w') (hx : w.heap.size < x ∧ x < r) : PtS w w' r B g c en tp W hl ns := by
  have hbB := H.bB
  have hs := hT.size
  have hsz := H.bel.size
  exact ⟨H.own.off hT (H.wl x (by omega) (by omega)) (by omega), H.bel.trans (hT.below hsz (by rintro k rfl; omega)), H.pl.tch hT (by omega), H.res.tch hT (by omega), H.wl, hbB.1, hbB.2.1, by omega⟩
/-- What is told is the plane. -/
theorem PtS.fin {w wr : World} {r B g c : Nat} {en tp en0 tp0 : Int} {W : Nat → Prop} {hl : Nat → Nat} {ns : List ND} (H : PtS w wr r B g c en0 tp0 W hl ns) (hr : Blk wr r 27 (pgL none 0 0 0 0)) :
    Blk (wr.setCells r 0 (pgL (some ⟨g, 0, none⟩) ns.length c en tp).toList) r 27 (pgL (some ⟨g, 0, none⟩) ns.length c en tp) ∧
    PgAt (wr.setCells r 0 (pgL (some ⟨g, 0, none⟩) ns.length c en tp).toList) (wr.setCells r 0 (pgL (some ⟨g, 0, none⟩) ns.length c en tp).toList).heap.size (some ⟨g, 0, none⟩) ns.length c ns ∧
    Below w.heap.size w (wr.setCells r 0 (pgL (some ⟨g, 0, none⟩) ns.length c en tp).toList) := by
  have hbB := H.bB
  have hT : Tch (fun k => k = r) wr (wr.setCells r 0 (pgL (some ⟨g, 0, none⟩) ns.length c en tp).toList) := Tch.setCells (S := fun k => k = r) rfl _ _ _ (Tch.refl _ _)
  exact ⟨hr.put _ rfl, (H.own.off hT (H.wl r (by omega) (Nat.le_refl _)) hbB.1).pg, below_setCells H.bel (Nat.le_refl _) (by omega) _ _⟩
/-- The error that Put tells. -/
def putW (ns : List ND) (links en tp level id : Int) : Int := if chkB ns links en tp then (if level < 0 ∨ 7 < level then 6 else if hasId ns id then 2 else if (liveI ns).length = 4096 then 4 else 0) else 7
def putND (ns : List ND) (id : Int) (vn : Nat) (vxs : List Int) (tags level : Int) : ND :=
  ⟨id, ⟨none, vn, vn, vxs⟩, tags, level, none, level.toNat + 1, level.toNat + 1, List.replicate (level.toNat + 1) ⟨none, 0, 0, []⟩, (nAt ns 0).next, 0⟩
def growN (ns : List ND) (slot : Nat) : List ND := if slot = ns.length then ns ++ [nd0] else ns
def linkN (l : List ND) (h slot : Nat) : List ND := (l.set h { nAt l h with prev := slot }).set 0 { nAt (l.set h { nAt l h with prev := slot }) 0 with next := slot }
def putSt (ns : List ND) (slot : Nat) (d : ND) : List ND := linkN ((growN ns slot).set slot d) (nAt ns 0).next.toNat slot
def PutR (ns : List ND) (links en tp level id : Int) (vn : Nat) (vxs : List Int) (tags : Int) (w : World) (e : Ending) (w' : World) : Prop :=
  (putW ns links en tp level id ≠ 0 ∧ e = .returned (.tuple #[.agg (pgL none 0 0 0 0), .int .i64 0, .int .i64 (putW ns links en tp level id)]) ∧ Below w.heap.size w w') ∨
  (putW ns links en tp level id = 0 ∧ ∃ g n c ns', e = .returned (.tuple #[.agg (pgL (some ⟨g, 0, none⟩) n c en tp), .int .i64 (slotI ns), .int .i64 0]) ∧ PgAt w' w'.heap.size (some ⟨g, 0, none⟩) n c ns' ∧ Eqv (putSt ns (slotI ns) (putND ns id vn vxs tags level)) ns' ∧ Below w.heap.size w w')
theorem PutR.no {ns : List ND} {links en tp level id : Int} {vn : Nat} {vxs : List Int} {tags y : Int} {w w' : World} (h : putW ns links en tp level id = y) (hy : y ≠ 0) (hb : Below w.heap.size w w') : PutR ns links en tp level id vn vxs tags w (.returned (.tuple #[.agg (pgL none 0 0 0 0), .int .i64 0, .int .i64 y])) w' := by
  subst h; exact .inl ⟨hy, rfl, hb⟩
theorem lvI_lt (ns : List ND) : ∀ k, 1 ≤ k → (lvI ns k).length + 1 ≤ k
  | 0, h => by omega
  | 1, _ => by rw [lvI_one]; simp
  | k + 2, _ => by
    have := lvI_lt ns (k + 1) (by omega)
    rw [lvI_succ, List.length_append]
    have h2 : (if thN ns (k + 1) then [((k + 1 : Nat) : Int)] else []).length ≤ 1 := by split <;> simp
    omega
theorem live_lt {ns : List ND} (h : 1 ≤ ns.length) : (liveI ns).length + 1 ≤ ns.length := lvI_lt ns _ h
theorem slot_le {ns : List ND} (h : 1 ≤ ns.length) : 1 ≤ slotI ns ∧ slotI ns ≤ ns.length := by
  have h1 := slotJ_le ns (liveI ns).length
  have h2 := live_lt h
  exact ⟨h1.1, by unfold slotI; omega⟩
theorem chk_parts {ns : List ND} {links en tp : Int} (h : chkB ns links en tp = true) : 1 ≤ ns.length ∧ ns.length ≤ 4097 ∧ ringB ns = true ∧ (liveI ns).all (fun x => nodeB ns x.toNat links) = true ∧ entB ns en tp = true := by
  unfold chkB at h
  simp only [Bool.and_eq_true, decide_eq_true_eq] at h
  exact ⟨h.1.1.1.1, h.1.1.1.2, h.1.1.2, h.1.2, h.2⟩
theorem ring_ok {ns : List ND} (h : ringB ns = true) {i : Nat} (hi : i < ns.length) : rOk ns i = true := by
  unfold ringB at h
  rw [Bool.and_eq_true, List.all_eq_true] at h
  exact h.1 i (List.mem_range.2 hi)
theorem chk_head {ns : List ND} {links en tp : Int} (h : chkB ns links en tp = true) : ∃ k : Nat, (nAt ns 0).next = k ∧ k < ns.length := by
  obtain ⟨h1, _, h3, _⟩ := chk_parts h
  have := ring_ok h3 (i := 0) (by omega)
  unfold rOk at this
  rw [if_neg (by simp), Bool.and_eq_true, Bool.and_eq_true] at this
  exact place_nat (by omega) this.1.1
theorem any_bad_ig {xs : List Int} {p : Int → Bool} {k : Nat} (hk : k < xs.length) (h : p (ig xs k) = true) : xs.any p = true := List.any_eq_true.2 ⟨_, ig_mem hk, h⟩
theorem any_all_ig {xs : List Int} {p : Int → Bool} (h : ∀ k, k < xs.length → p (ig xs k) = false) : xs.any p = false := by
  rw [List.any_eq_false]
  intro x hx
  obtain ⟨k, hk, rfl⟩ := List.getElem_of_mem hx
  have := h k hk
  unfold ig at this
  rw [List.getD_eq_getElem?_getD, List.getElem?_eq_getElem hk] at this
  simpa using this
theorem norm_prev {d d' : ND} (h : d.norm = d'.norm) (v : Int) : ({ d with prev := v } : ND).norm = ({ d' with prev := v } : ND).norm := by
  have e := congrArg (fun x : ND => ({ x with prev := v } : ND)) h
  exact e
theorem norm_next {d d' : ND} (h : d.norm = d'.norm) (v : Int) : ({ d with next := v } : ND).norm = ({ d' with next := v } : ND).norm := by
  have e := congrArg (fun x : ND => ({ x with next := v } : ND)) h
  exact e
theorem linkN_eqv {l l' : List ND} (h : Eqv l l') (k slot : Nat) : Eqv (linkN l k slot) (linkN l' k slot) := by
  unfold linkN
  have h1 := h.set k (norm_prev (h.nAt k) (slot : Int))
  exact h1.set 0 (norm_next (h1.nAt 0) (slot : Int))
theorem linkN_len (l : List ND) (k slot : Nat) : (linkN l k slot).length = l.length := by unfold linkN; rw [List.length_set, List.length_set]
theorem yieldsIf_addR {P : Program} {ops : Array Oper} {S : World → Prop} {o : Oper} {a : Act} {t t' : TypeId} {m n r : Int} (hw : Region.wanted o (yielded ops a.tmps) = true) (x y : Operand) (ho : o.op = .binOp .add t x y t') (hx : a.eval x = .int .i64 m) (hy : a.eval y = .int .i64 n) (hr : IntKind.i64.wrap (m + n) = r) : YieldsIf P ops S o (.int .i64 r) a := by
  refine .inl ⟨hw, fun w _ => ?_⟩
  unfold execOp
  simp only [ho, hx, hy]
  simp [go_sem, ← hr]
theorem make_lists (n : Nat) (hn : n ≤ 1048576) (w : World) : (Instr.makeSlice 47 (.int .i64 (n : Int)) (.int .i64 (n : Int))).run Try.prog w = .ok (.slice (some ⟨w.heap.size, 0, none⟩) n n) (w.alloc (.cells (madeCells #[.slice none 0 0] n) 23)) := by
  obtain ⟨i, hi, hz, hz1, hz2⟩ := info_parts info_ints
  have hr := run_make (P := Try.prog) w 47 23 i _ Try.underlying47 hi hz .i64 .i64 n n (by omega) (Int.le_refl _) (by rw [hz2]; omega) (by omega)
  simp only [Int.toNat_natCast, hz1, Nat.mul_one] at hr
  exact hr
theorem made_rw (w : World) (n : Nat) : Rw (w.alloc (.cells (madeCells #[.slice none 0 0] n) 23)) w.heap.size 23 (n * 1) ((List.replicate n (⟨none, 0, 0, []⟩ : IS)).map IS.v) := by
  have e : (madeCells #[.slice none 0 0] n).toList = List.replicate n (.slice none 0 0) := by
    refine List.ext_getElem (by simp [madeCells]) fun i h1 h2 => ?_
    simp [madeCells, Nat.mod_one]
  refine ⟨_, heap_alloc_new w _, by simp [madeCells], ?_⟩
  rw [e, List.map_replicate, List.length_replicate, List.take_of_length_le (by simp)]; rfl
theorem exec_make {w w' : World} {o : Oper} {a : Act} {ty : TypeId} {l c v : Value} {x y : Operand} (ho : o.op = .makeSlice ty x y) (hx : a.eval x = l) (hy : a.eval y = c) (hr : (Instr.makeSlice ty l c).run Try.prog w = .ok v w') : (execOp a.eval o).run Try.prog w = .ok (.value v) w' := by
  unfold execOp
  simp only [ho, hx, hy, Sem.run_bind, hr, Result.andThen_ok]
  rfl
/-- .. of a vector of the call's own. -/
theorem vec_own {w : World} {B : Nat} {A : Option Addr} {n c : Nat} {xs : List Int} (ho : w.ownsRow B 21 1 (.slice A n c) n (xs.map (.int .i32))) (hn : n ≤ 1048576) (hw : ∀ x ∈ xs, (Lit.int .i32 x).wf = true) : IS.AtS w (fun k => B ≤ k ∧ k < w.heap.size) .i32 ⟨A, n, c, xs⟩ := by
  refine ⟨fun e => ?_, hn, ?_, hw⟩
  · rcases ho.2 with ⟨q, q0⟩ | ⟨x, cap, cur, q, _⟩
    · injection q with _ q2 q3; exact ⟨q2, q3⟩
    · injection q with q1 _ _; exact absurd (e.symm.trans q1) (by simp)
  · refine ⟨by simpa using ho.1, fun h0 => ?_⟩
    obtain ⟨x, e, hx, _, _, hr⟩ := Rw.of_own ho h0
    exact ⟨x, 0, e, ⟨hx, hr.lt⟩, fun q u hu => by rw [Nat.zero_add]; exact hr.cell hu⟩
theorem itemT : (Try.prog.info? 32).map (·.size) = some 3 := by kernel_rfl
theorem item_load {w : World} {b : Nat} {id tags : Int} {vA : Option Addr} {vn vc : Nat} (h : Blk w b 32 (itL id vA vn vc tags)) : (Instr.loadAt 32 (.pointer (some ⟨b, 0, none⟩))).run Try.prog w = .ok (.agg (itL id vA vn vc tags)) w := row_load h Try.underlying32 rfl itemT
theorem itL_lit (id : Int) (vA : Option Addr) (vn vc : Nat) (tags : Int) : itL id vA vn vc tags = #[.int .u64 id, .slice vA vn vc, .int .u64 tags] := rfl
set_option maxRecDepth 100000 in
set_option maxHeartbeats 4000000 in
theorem pl_put (A : Option Addr) (n c : Nat) (ns : List ND) (en tp links level id : Int) (vA : Option Addr) (vn vc : Nat) (vxs : List Int) (tags : Int) (w : World) (hg : PgAt w w.heap.size A n c ns)
    (hv : IS.At w w.heap.size .i32 ⟨vA, vn, vc, vxs⟩) (hid : (Lit.int .u64 id).wf = true) :
    Calls Try.prog 7 #[.agg (pgL A n c en tp), .agg (itL id vA vn vc tags), .int .i64 level, .int .i64 links] w (PutR ns links en tp level id vn vxs tags w) := by
  obtain ⟨w3, hw3⟩ : ∃ x, ((w.alloc (.cells (pgL A n c en tp) 27)).alloc (.cells (itL id vA vn vc tags) 32)).alloc (.cells (pgL none 0 0 0 0) 27) = x := ⟨_, rfl⟩
  have s1 : (w.alloc (.cells (pgL A n c en tp) 27)).heap.size = w.heap.size + 1 := by simp only [World.alloc, Array.size_push]
  have s2 : ((w.alloc (.cells (pgL A n c en tp) 27)).alloc (.cells (itL id vA vn vc tags) 32)).heap.size = w.heap.size + 1 + 1 := by simp only [World.alloc, Array.size_push]
  have k1 : Blk w3 w.heap.size 27 (pgL A n c en tp) := by rw [← hw3]; exact ((Blk.new _ _ _).alloc _).alloc _
  have k2 : Blk w3 (w.heap.size + 1) 32 (itL id vA vn vc tags) := by rw [← hw3, ← s1]; exact (Blk.new _ _ _).alloc _
  have k3 : Blk w3 (w.heap.size + 1 + 1) 27 (pgL none 0 0 0 0) := by rw [← hw3, ← s2]; exact Blk.new _ _ _
  have b3 : Below w.heap.size w w3 := by rw [← hw3]; exact (((bel_box w _).alloc (by rw [s1]; omega) _).alloc (by rw [s2]; omega) _)
  have hn := hg.2.1
  have HL := Lib.hid hg.len
  have HG := Lib.hid hg
  have HV := Lib.hid hv
  have HID := Lib.hid hid
  have K1 := Lib.hid k1
  have K2 := Lib.hid k2
  have K3 := Lib.hid k3
  have HB3 := Lib.hid b3
  have LP3 := plane_load k1
  have HLV := pl_live A n c ns en tp w3 (hg.on b3 b3.size)
  have HPW : Hid (putW ns links en tp level id = if chkB ns links en tp then (if level < 0 ∨ 7 < level then 6 else if hasId ns id then 2 else if (liveI ns).length = 4096 then 4 else 0) else 7) := rfl
  clear hg hv hid k1 k2 k3 b3 s1 s2
  rw [planeZ, itL_lit] at hw3
  unfold pgL at hw3 LP3 HLV ⊢
  unfold itL
  replace HLV := Lib.hid HLV
  go_enter Try.func7, Try.ntmps7
  go_upto_region 1 with fail
  (try rw [hw3])
  clear hw3
  go_upto_region 2 with (first | ((with_reducible refine wpList_loadE (op := ⟨some 16, _, _, _, _, _⟩) LP3 ?leX ?leG ?leO ?leE ?_); (case leO => exact rfl); (case leE => exact rfl); (case leG => exact rfl)) | (go_at_call 13; (with_reducible refine HLV.out.mono ?_); rintro e w4 ⟨A2, n2, c2, rfl, ho2, b4⟩; have HO := Lib.hid ho2.rd; have HOL := Lib.hid ho2.len; have HB4 := Lib.hid b4; clear ho2 b4))
  have hl2 : n2 ≤ 1048576 := by have h1 := HOL.out; have h2 := lvI_le ns ns.length; have h3 := HL.out; unfold liveI at h1; omega
  have LP4 := plane_load (K1.out.below HB4.out K1.out.lt)
  have HCK := pl_check A n c ns en tp links w4 (HG.out.on (HB3.out.trans (HB4.out.mono HB3.out.size)) (Nat.le_trans HB3.out.size HB4.out.size))
  unfold pgL at LP4 HCK
  cases hck : chkB ns links en tp with
  | false =>
    have HY : Hid (putW ns links en tp level id = 7) := by show _ = _; rw [HPW.out, hck]; rfl
    rw [chkW_no hck] at HCK
    replace HCK := Lib.hid HCK
    clear hck LP3 HLV
    go_upto_region 3 with (first | ((with_reducible refine wpList_loadE (op := ⟨some 19, _, _, _, _, _⟩) LP4 ?leX ?leG ?leO ?leE ?_); (case leO => exact rfl); (case leE => exact rfl); (case leG => exact rfl)) | (go_at_call 12; (with_reducible refine HCK.out.mono ?_); rintro e w5 ⟨rfl, b5⟩; have HB5 := Lib.hid (HB4.out.trans (b5.mono HB4.out.size)); clear b5))
    have b9 := HB3.out.trans (HB5.out.mono HB3.out.size)
    have k9 : Blk w5 (w.heap.size + 1 + 1) 27 (pgL none 0 0 0 0) := K3.out.below HB5.out K3.out.lt
    have SR := row_store k9 (pgL none 0 0 0 0) rfl planeT (by simp [pgL, Value.oneCell'])
    have HKZ : Hid (Blk (w5.setCells (w.heap.size + 1 + 1) 0 (pgL none 0 0 0 0).toList) (w.heap.size + 1 + 1) 27 (pgL none 0 0 0 0)) := k9.put _ rfl
    have HBZ : Hid (Below w.heap.size w (w5.setCells (w.heap.size + 1 + 1) 0 (pgL none 0 0 0 0).toList)) := below_setCells b9 (Nat.le_refl _) (by omega) _ _
    obtain ⟨wz, hwz⟩ : ∃ x, w5.setCells (w.heap.size + 1 + 1) 0 (pgL none 0 0 0 0).toList = x := ⟨_, rfl⟩
    rw [hwz] at SR HKZ HBZ
    clear hwz b9 k9
    unfold pgL at SR
    go_wp2_with (refine wpList_storeE SR _ _ rfl rfl rfl rfl ?_)
    refine bodyPost_ret (v := .tuple #[.agg (pgL none 0 0 0 0), .int .i64 0, .int .i64 7]) ?_ rfl (PutR.no HY.out (by decide) HBZ.out)
    exact results_row12 Try.results7 _ rfl HKZ.out Try.underlying27 rfl planeT
  | true =>
    rw [chkW_yes hck] at HCK
    replace HCK := Lib.hid HCK
    obtain ⟨hn1, hn2, _⟩ := chk_parts hck
    have HHD := Lib.hid (chk_head hck)
    have HPW2 : Hid (putW ns links en tp level id = if level < 0 ∨ 7 < level then 6 else if hasId ns id then 2 else if (liveI ns).length = 4096 then 4 else 0) := by show _ = _; rw [HPW.out, hck]; rfl
    have HS := Lib.hid (slot_le hn1)
    rw [HL.out] at hn1 hn2
    clear hck LP3 HLV
    go_upto_region 4 with (first | ((with_reducible refine wpList_loadE (op := ⟨some 19, _, _, _, _, _⟩) LP4 ?leX ?leG ?leO ?leE ?_); (case leO => exact rfl); (case leE => exact rfl); (case leG => exact rfl)) | (go_at_call 12; (with_reducible refine HCK.out.mono ?_); rintro e w5 ⟨rfl, b5⟩; have HB5 := Lib.hid (HB4.out.trans (b5.mono HB4.out.size)); have HO5 := Lib.hid ((HO.out.below b5).more b5.size); clear b5))
    clear HCK LP4
    by_cases l0 : level < 0
    · have HY : Hid (putW ns links en tp level id = 6) := by show _ = _; rw [HPW2.out, if_pos (.inl l0)]
      have e1 : decide (level < 0) = true := decide_eq_true l0
      go_upto_region 5 with fail
      have b9 := HB3.out.trans (HB5.out.mono HB3.out.size)
      have k9 : Blk w5 (w.heap.size + 1 + 1) 27 (pgL none 0 0 0 0) := K3.out.below HB5.out K3.out.lt
      have SR := row_store k9 (pgL none 0 0 0 0) rfl planeT (by simp [pgL, Value.oneCell'])
      have HKZ : Hid (Blk (w5.setCells (w.heap.size + 1 + 1) 0 (pgL none 0 0 0 0).toList) (w.heap.size + 1 + 1) 27 (pgL none 0 0 0 0)) := k9.put _ rfl
      have HBZ : Hid (Below w.heap.size w (w5.setCells (w.heap.size + 1 + 1) 0 (pgL none 0 0 0 0).toList)) := below_setCells b9 (Nat.le_refl _) (by omega) _ _
      obtain ⟨wz, hwz⟩ : ∃ x, w5.setCells (w.heap.size + 1 + 1) 0 (pgL none 0 0 0 0).toList = x := ⟨_, rfl⟩
      rw [hwz] at SR HKZ HBZ
      clear hwz b9 k9
      unfold pgL at SR
      go_wp2_with (refine wpList_storeE SR _ _ rfl rfl rfl rfl ?_)
      refine bodyPost_ret (v := .tuple #[.agg (pgL none 0 0 0 0), .int .i64 0, .int .i64 6]) ?_ rfl (PutR.no HY.out (by decide) HBZ.out)
      exact results_row12 Try.results7 _ rfl HKZ.out Try.underlying27 rfl planeT
    by_cases l7 : 7 < level
    · have HY : Hid (putW ns links en tp level id = 6) := by show _ = _; rw [HPW2.out, if_pos (.inr l7)]
      have e1 : decide (level < 0) = false := decide_eq_false l0
      have e2 : decide (level > 7) = true := decide_eq_true l7
      go_upto_region 5 with fail
      have b9 := HB3.out.trans (HB5.out.mono HB3.out.size)
      have k9 : Blk w5 (w.heap.size + 1 + 1) 27 (pgL none 0 0 0 0) := K3.out.below HB5.out K3.out.lt
      have SR := row_store k9 (pgL none 0 0 0 0) rfl planeT (by simp [pgL, Value.oneCell'])
      have HKZ : Hid (Blk (w5.setCells (w.heap.size + 1 + 1) 0 (pgL none 0 0 0 0).toList) (w.heap.size + 1 + 1) 27 (pgL none 0 0 0 0)) := k9.put _ rfl
      have HBZ : Hid (Below w.heap.size w (w5.setCells (w.heap.size + 1 + 1) 0 (pgL none 0 0 0 0).toList)) := below_setCells b9 (Nat.le_refl _) (by omega) _ _
      obtain ⟨wz, hwz⟩ : ∃ x, w5.setCells (w.heap.size + 1 + 1) 0 (pgL none 0 0 0 0).toList = x := ⟨_, rfl⟩
      rw [hwz] at SR HKZ HBZ
      clear hwz b9 k9
      unfold pgL at SR
      go_wp2_with (refine wpList_storeE SR _ _ rfl rfl rfl rfl ?_)
      refine bodyPost_ret (v := .tuple #[.agg (pgL none 0 0 0 0), .int .i64 0, .int .i64 6]) ?_ rfl (PutR.no HY.out (by decide) HBZ.out)
      exact results_row12 Try.results7 _ rfl HKZ.out Try.underlying27 rfl planeT
    have HPW3 : Hid (putW ns links en tp level id = if hasId ns id then 2 else if (liveI ns).length = 4096 then 4 else 0) := by show _ = _; rw [HPW2.out, if_neg (by omega)]
    have e1 : decide (level < 0) = false := decide_eq_false l0
    have e2 : decide (level > 7) = false := decide_eq_false l7
    have hb5w := HB3.out.trans (HB5.out.mono HB3.out.size)
    have HGB := Lib.hid (HG.out.on hb5w (Nat.le_trans HB3.out.size HB5.out.size))
    have K15 := Lib.hid (K1.out.below HB5.out K1.out.lt)
    have K25 := Lib.hid (K2.out.below HB5.out K2.out.lt)
    have hcn := fun (Y : World) (hY : Below w5.heap.size w5 Y) => cnt_func A2 n2 c2 (liveI ns) 22 #[.pointer (some ⟨w.heap.size, 0, none⟩), .pointer (some ⟨w.heap.size + 1, 0, none⟩)] (fun i => idI ns (ig (liveI ns) i) == id) (fun _ Z => Below w5.heap.size w5 Z) Y (by omega)
      (enters_of Try.func22 (by kernel_rfl) rfl) (fun _ Z hZ => (HO5.out.below hZ).more hZ.size)
      (fun i Z hi hZ => by
        obtain ⟨k, hx, _, hkl⟩ := live_nat (ig_mem (xs := liveI ns) (k := i) (by rw [HOL.out]; exact hi))
        rw [hx]
        have := put_cl k A n c ns en tp id vA vn vc tags w.heap.size (w.heap.size + 1) Z (HGB.out.on hZ hZ.size) (by rw [← HL.out]; exact hkl) (K15.out.below hZ K15.out.lt) (K25.out.below hZ K25.out.lt)
        have hi2 : idI ns (k : Int) = (nAt ns k).id := by unfold idI; rw [Int.toNat_natCast]
        rw [hi2]
        exact this.mono fun e w' ⟨h1, h2⟩ => ⟨h1, hZ.trans (h2.mono hZ.size)⟩) hY
    have HCN := Lib.hid hcn
    clear hcn hb5w
    go_upto_region 6 with fail
    clear e1 e2
    have HCC := Lib.hid (HCN.out w5 (Below.refl _ _))
    go_wp2_with fail
    refine HCC.out.mono ?_
    rintro e w6 (⟨hall, rfl, hk⟩ | ⟨i, hi, hqi, _, rfl, hk⟩)
    rotate_left
    · have HY : Hid (putW ns links en tp level id = 2) := by
        show _ = _
        rw [HPW3.out, if_pos]
        unfold hasId
        exact any_bad_ig (k := i) (by rw [HOL.out]; exact hi) hqi
      have HB6 := Lib.hid (HB5.out.trans (hk.mono HB5.out.size))
      clear hqi hk HCN HCC
      go_upto_region 7 with fail
      have b9 := HB3.out.trans (HB6.out.mono HB3.out.size)
      have k9 : Blk w6 (w.heap.size + 1 + 1) 27 (pgL none 0 0 0 0) := K3.out.below HB6.out K3.out.lt
      have SR := row_store k9 (pgL none 0 0 0 0) rfl planeT (by simp [pgL, Value.oneCell'])
      have HKZ : Hid (Blk (w6.setCells (w.heap.size + 1 + 1) 0 (pgL none 0 0 0 0).toList) (w.heap.size + 1 + 1) 27 (pgL none 0 0 0 0)) := k9.put _ rfl
      have HBZ : Hid (Below w.heap.size w (w6.setCells (w.heap.size + 1 + 1) 0 (pgL none 0 0 0 0).toList)) := below_setCells b9 (Nat.le_refl _) (by omega) _ _
      obtain ⟨wz, hwz⟩ : ∃ x, w6.setCells (w.heap.size + 1 + 1) 0 (pgL none 0 0 0 0).toList = x := ⟨_, rfl⟩
      rw [hwz] at SR HKZ HBZ
      clear hwz b9 k9
      unfold pgL at SR
      go_wp2_with (refine wpList_storeE SR _ _ rfl rfl rfl rfl ?_)
      refine bodyPost_ret (v := .tuple #[.agg (pgL none 0 0 0 0), .int .i64 0, .int .i64 2]) ?_ rfl (PutR.no HY.out (by decide) HBZ.out)
      exact results_row12 Try.results7 _ rfl HKZ.out Try.underlying27 rfl planeT
    have hno : hasId ns id = false := by
      unfold hasId
      exact any_all_ig fun k hk => hall k (by rw [← HOL.out]; exact hk)
    have HPW4 : Hid (putW ns links en tp level id = if n2 = 4096 then 4 else 0) := by show _ = _; rw [HPW3.out, hno, HOL.out]; rfl
    have HB6 := Lib.hid (HB5.out.trans (hk.mono HB5.out.size))
    have HO6 := Lib.hid ((HO5.out.below hk).more hk.size)
    clear hall hk HCN HCC hno HGB K15 K25 HO5
    by_cases h4 : n2 = 4096
    · have HY : Hid (putW ns links en tp level id = 4) := by show _ = _; rw [HPW4.out, if_pos h4]
      have e3 : ((n2 : Int) == 4096) = true := by rw [h4]; rfl
      have e4 : (n2 == 4096) = true := by rw [h4]; rfl
      clear h4
      go_upto_region 9 with fail
      have b9 := HB3.out.trans (HB6.out.mono HB3.out.size)
      have k9 : Blk w6 (w.heap.size + 1 + 1) 27 (pgL none 0 0 0 0) := K3.out.below HB6.out K3.out.lt
      have SR := row_store k9 (pgL none 0 0 0 0) rfl planeT (by simp [pgL, Value.oneCell'])
      have HKZ : Hid (Blk (w6.setCells (w.heap.size + 1 + 1) 0 (pgL none 0 0 0 0).toList) (w.heap.size + 1 + 1) 27 (pgL none 0 0 0 0)) := k9.put _ rfl
      have HBZ : Hid (Below w.heap.size w (w6.setCells (w.heap.size + 1 + 1) 0 (pgL none 0 0 0 0).toList)) := below_setCells b9 (Nat.le_refl _) (by omega) _ _
      obtain ⟨wz, hwz⟩ : ∃ x, w6.setCells (w.heap.size + 1 + 1) 0 (pgL none 0 0 0 0).toList = x := ⟨_, rfl⟩
      rw [hwz] at SR HKZ HBZ
      clear hwz b9 k9
      unfold pgL at SR
      go_wp2_with (refine wpList_storeE SR _ _ rfl rfl rfl rfl ?_)
      refine bodyPost_ret (v := .tuple #[.agg (pgL none 0 0 0 0), .int .i64 0, .int .i64 4]) ?_ rfl (PutR.no HY.out (by decide) HBZ.out)
      exact results_row12 Try.results7 _ rfl HKZ.out Try.underlying27 rfl planeT
    have HY : Hid (putW ns links en tp level id = 0) := by show _ = _; rw [HPW4.out, if_neg h4]
    have e3 : ((n2 : Int) == 4096) = false := beq_false_of_ne (by omega)
    have e4 : (n2 == 4096) = false := beq_false_of_ne h4
    go_wp2_with fail
    clear e3 e4 h4
    go_loopw [12, 44] (fun s12 s44 wr => ∃ j : Nat, j ≤ n2 ∧ s44 = .int .i64 j ∧ s12 = .int .i64 (slotJ ns j) ∧ w6 = wr) (fun _ s44 _ => n2 - (intOf s44).toNat)
    case atStart => exact ⟨0, Nat.zero_le _, rfl, rfl, rfl⟩
    case round =>
      obtain ⟨j, hj, rfl, rfl, rfl⟩ := hrel
      by_cases hlj : j < n2
      · have hjl : j < (liveI ns).length := by rw [HOL.out]; exact hlj
        obtain ⟨b9, o9, hA9, hb9, hx9⟩ := HO6.out.atI hlj
        subst hA9
        have hsl := slotJ_le ns j
        have hsu := slotJ_succ hjl
        obtain ⟨x, hx⟩ : ∃ x, ig (liveI ns) j = x := ⟨_, rfl⟩
        obtain ⟨sl, hsl2⟩ : ∃ sl, slotJ ns j = sl := ⟨_, rfl⟩
        rw [hx] at hsu hx9
        rw [hsl2] at hsu hsl ⊢
        obtain ⟨hsl0, hsl1⟩ := hsl
        cases q : (x == (sl : Int)) with
        | true =>
          rw [q] at hsu
          have HSU : Hid (slotJ ns (j + 1) = sl + 1) := hsu
          clear hsu hx hsl2
          go_wp2_with fail
          go_roundw
          case rel => exact ⟨j + 1, by omega, by go_num, by rw [HSU.out]; go_num, trivial⟩
          case measure => simp [intOf]; omega
        | false =>
          rw [q] at hsu
          have HSU : Hid (slotJ ns (j + 1) = sl) := hsu
          clear hsu hx hsl2
          go_wp2_with fail
          go_roundw
          case rel => exact ⟨j + 1, by omega, by go_num, by rw [HSU.out], trivial⟩
          case measure => simp [intOf]; omega
      · obtain rfl : j = n2 := by omega
        obtain ⟨slot, hslot⟩ : ∃ slot, slotI ns = slot := ⟨_, rfl⟩
        have hsj : slotJ ns j = slot := by rw [← hslot]; unfold slotI; rw [HOL.out]
        rw [hsj]
        rw [hslot, HL.out] at HS
        obtain ⟨hs1, hs2⟩ := HS.out
        have HSL := Lib.hid hslot
        clear hsj hslot hj hlj
        have h6w := HB3.out.trans (HB6.out.mono HB3.out.size)
        have h36 := HB6.out.size
        have LP6 := plane_load (K1.out.below HB6.out K1.out.lt)
        have HOW := Lib.hid (pl_own A n c ns en tp w6 w.heap.size (HG.out.below h6w) h6w.size (by omega))
        have K16 := Lib.hid (K1.out.below HB6.out K1.out.lt)
        have K26 := Lib.hid (K2.out.below HB6.out K2.out.lt)
        have K36 := Lib.hid (K3.out.below HB6.out K3.out.lt)
        have H6W := Lib.hid h6w
        clear h6w
        unfold pgL at LP6 HOW
        go_wp2_with ((with_reducible refine wpList_loadE (op := ⟨some 54, _, _, _, _, _⟩) LP6 ?leX ?leG ?leO ?leE ?_); (case leO => exact rfl); (case leE => exact rfl); (case leG => exact rfl))
        refine HOW.out.mono ?_
        rintro e w7 ⟨B, g, c7, W, hl, ns7, rfl, hB, ho, hE, hW, hb7⟩
        have hn7 : ns7.length = n := by rw [← hE.len, HL.out]
        simp only [HL.out] at ho ⊢
        have K17 := K16.out.below hb7 K16.out.lt
        have SR7 := row_store K17 (pgL (some ⟨g, 0, none⟩) n c7 en tp) rfl planeT (by simp [pgL, Value.oneCell'])
        have hPT := PtS.start (en := en) (tp := tp) hB ho hn7 hW hb7 H6W.out K16.out K36.out (by omega) (by have h1 := ho.gB; have h2 := ho.row.lt; omega)
        obtain ⟨w8, hw8⟩ : ∃ x, w7.setCells w.heap.size 0 (pgL (some ⟨g, 0, none⟩) n c7 en tp).toList = x := ⟨_, rfl⟩
        have K28 : Blk w8 (w.heap.size + 1) 32 (itL id vA vn vc tags) := by
          rw [← hw8]
          exact (K26.out.below hb7 K26.out.lt).tch (Tch.setCells (S := fun k => k = w.heap.size) rfl _ _ _ (Tch.refl _ _)) (by omega)
        rw [hw8] at SR7 hPT
        have HPT0 := Lib.hid hPT
        have HE7 := Lib.hid hE
        have HN7 := Lib.hid hn7
        have HK28 := Lib.hid K28
        clear hw8 K17 hPT K28 hE hn7 ho hW hb7 HOW LP6 K16 K26 K36 H6W HB6 HO6
        unfold pgL at SR7 ⊢
        go_upto_region 18 with (refine wpList_storeE SR7 _ _ rfl rfl rfl rfl ?_)
        clear SR7
        have x0 : w8.cell? ⟨w.heap.size, 0, none⟩ = some (.slice (some ⟨g, 0, none⟩) n c7) := by rw [← HN7.out]; exact HPT0.out.pl.cell 0
        by_cases hsn : slot = n
        · have e5 : ((slot : Int) == (n : Int)) = true := by rw [hsn]; exact beq_self_eq_true _
          have e6 : (slot == n) = true := by rw [hsn]; exact beq_self_eq_true _
          have HSN := Lib.hid hsn
          clear hsn
          obtain ⟨i, hi, hz, hz1, hz2⟩ := info_parts info_node
          have hown : (w8.alloc (.cells nd0.cells 49)).ownsRow B 49 7 (.slice (some ⟨g, 0, none⟩) n c7) n (flat ns7) :=
            (HPT0.out.own.row.own (by rw [flat_length, HN7.out]) HPT0.out.own.gB (by have := HPT0.out.own.cap.1; rw [HN7.out] at this; exact this) HPT0.out.own.cap.2).alloc _
          have hnews : ∀ j u, nd0.cells.toList[j]? = some u → (w8.alloc (.cells nd0.cells 49)).cell? (Addr.add ⟨w8.heap.size, 0, none⟩ j) = some u := by
            intro j u hu
            rw [Addr.add_lit, Nat.zero_add, (Blk.new w8 49 nd0.cells).cell, ← Array.getElem?_toList]
            exact hu
          have hone : ∀ u ∈ nd0.cells.toList, u.oneCell' = true := by
            intro u hu
            exact (Array.all_eq_true_iff_forall_mem.1 (node_one nd0)) u (by simpa using hu)
          have hGR : Hid (∀ g' c' w9, w9.ownsRow B 49 7 (.slice (some ⟨g', 0, none⟩) (n + 1) c') (n + 1) (flat ns7 ++ nd0.cells.toList) → (w8.alloc (.cells nd0.cells 49)).grownBy w9 (some g) → (some g = some g' ∨ g' = w8.heap.size + 1) →
              w9.cell? ⟨w.heap.size, 0, none⟩ = some (.slice (some ⟨g, 0, none⟩) n c7) ∧ w9.frozen? ⟨w.heap.size, 0, none⟩ = false ∧ Blk w9 (w.heap.size + 1) 32 (itL id vA vn vc tags) ∧
              ∃ W', PtS w (w9.setCell ⟨w.heap.size, 0, none⟩ (.slice (some ⟨g', 0, none⟩) (n + 1) c')) (w.heap.size + 1 + 1) B g' c' en tp W' hl (ns7 ++ [nd0])) := by
            intro g' c' w9 ho9 hg9 hat
            have hT : Tch (fun k => k = g) w8 w9 := ((Tch.refl (fun k => k = g) w8).alloc (.cells nd0.cells 49)).trans (⟨hg9.os, hg9.tape, hg9.output, hg9.size, fun k hk hn => hg9.block k hk (by intro e; injection e with e; exact hn e)⟩ : Tch (fun k => k = g) _ w9) (fun _ h => .inl h)
            have h9 := HPT0.out.grow hT (by rcases hat with e | e; · injection e with e; exact .inl e.symm
                                            · exact .inr (by omega)) (by rw [HN7.out]; exact ho9) (by rw [HN7.out]; omega)
            rw [HN7.out] at h9
            have hgB := HPT0.out.own.gB
            have hbB := HPT0.out.bB
            exact ⟨h9.1, h9.2.1, HK28.out.tch hT (by omega), h9.2.2⟩
          have HOWN := Lib.hid hown
          have HNEWS := Lib.hid hnews
          have HONE := Lib.hid hone
          have HBS : Hid (B ≤ (w8.alloc (.cells nd0.cells 49)).heap.size) := Nat.le_trans HPT0.out.bB.2.2 (bel_box _ _).size
          have HI := Lib.hid hi
          have HZ := Lib.hid hz
          have HZ1 := Lib.hid hz1
          have HZ2 := Lib.hid hz2
          clear hown hnews hone hi hz hz1 hz2
          go_upto_region 20 with (at_builtin; refine wpList_append_lies (w8.alloc (.cells nd0.cells 49)) rfl (.tmp 62) (.tmp 64) 25 rfl B 49 i _ 7 88 Try.underlying25 HI.out HZ.out HZ1.out HZ2.out rfl (by decide) (.slice (some ⟨g, 0, none⟩) n c7) n (flat ns7) rfl HOWN.out ⟨w8.heap.size, 0, none⟩ 1 1 nd0.cells.toList rfl rfl HNEWS.out HONE.out (by decide) (by unfold maxLen; omega) (by omega) HBS.out (w8.heap.size + 1) (by simp only [World.alloc, Array.size_push]) ?_; intro g' c' w9 ho9 hg9 hat hlt; obtain ⟨y0, f0, k29, hPT'⟩ := hGR.out g' c' w9 ho9 hg9 hat; have HK29 := Lib.hid k29; have HPT9 := Lib.hid hPT'; clear ho9 hg9 hat hlt k29 hPT')
          obtain ⟨W1, hPT1⟩ := HPT9.out
          obtain ⟨wS, hwS⟩ : ∃ x, w9.setCell ⟨w.heap.size, 0, none⟩ (.slice (some ⟨g', 0, none⟩) (n + 1) c') = x := ⟨_, rfl⟩
          have hk2s : Blk wS (w.heap.size + 1) 32 (itL id vA vn vc tags) := by rw [← hwS]; exact HK29.out.far (by show w.heap.size + 1 ≠ w.heap.size; omega) _
          rw [hwS] at hPT1
          simp only [hwS]
          clear hwS
          obtain ⟨ns1, hns1⟩ : ∃ x, ns7 ++ [nd0] = x := ⟨_, rfl⟩
          rw [hns1] at hPT1
          have HN1 : Hid (ns1.length = n + 1) := by show _ = _; rw [← hns1, List.length_append, HN7.out]; rfl
          have HEQ : Hid (Eqv (growN ns slot) ns1) := by
            show Eqv _ _
            unfold growN
            rw [if_pos (by rw [HL.out]; exact HSN.out), ← hns1]
            have := HE7.out
            unfold Eqv at this ⊢
            rw [List.map_append, List.map_append, this]
          have hsN : slot < n + 1 := by omega
          have HPT1 := Lib.hid hPT1
          have HK2S := Lib.hid hk2s
          clear hPT1 hk2s hns1 e5 e6 y0 f0 x0 HPT9 hGR HOWN HNEWS HONE HBS HI HZ HZ1 HZ2
          have q1 : wS.cell? ⟨w.heap.size + 1, 1, none⟩ = some (.slice vA vn vc) := HK2S.out.cell 1
          have x0 : wS.cell? ⟨w.heap.size, 0, none⟩ = some (.slice (some ⟨g', 0, none⟩) (n + 1) c') := by rw [← HN1.out]; exact HPT1.out.pl.cell 0
          have hVS := (HV.out.below HPT1.out.bel).more HPT1.out.bel.size
          have HCV := Lib.hid (sl_cloneV vA vn vc vxs wS hVS.2.2.1 hVS.2.1 hVS.1)
          have HVS := Lib.hid hVS
          have hN0 : 0 < (n + 1) := by omega
          clear hVS
          go_upto_region 22 with (go_at_call 24; (with_reducible refine HCV.out.mono ?_); rintro e w11 ⟨A11, c11, rfl, ho11, _, b11⟩; have HO11 := Lib.hid ho11; have HB11 := Lib.hid b11; have z1 : w11.cell? ⟨w.heap.size + 1, 1, none⟩ = some (.slice vA vn vc) := (HK2S.out.below b11 HK2S.out.lt).cell 1; have f1 : w11.frozen? ⟨w.heap.size + 1, 1, none⟩ = false := (HK2S.out.below b11 HK2S.out.lt).frozen 1; clear ho11 b11)
          obtain ⟨w12, hw12⟩ : ∃ x, w11.setCell ⟨w.heap.size + 1, 1, none⟩ (.slice A11 vn c11) = x := ⟨_, rfl⟩
          have hq12 : Tch (fun k => k = w.heap.size + 1) w11 w12 := by rw [← hw12]; exact Tch.setCell (S := fun k => k = w.heap.size + 1) (Tch.refl _ _) rfl _ _
          have hP12 := (HPT1.out.more HB11.out).off hq12 ⟨by omega, by omega⟩
          have k12 : Blk w12 (w.heap.size + 1) 32 (itL id A11 vn c11 tags) := by rw [← hw12]; exact (HK2S.out.below HB11.out HK2S.out.lt).set_ 1 _
          have hs12 : w12.heap.size = w11.heap.size := by rw [← hw12]; simp [World.setCell]
          have hv12 : IS.AtS w12 (fun k => wS.heap.size ≤ k ∧ k < w12.heap.size) .i32 ⟨A11, vn, c11, vxs⟩ := ((vec_own HO11.out HVS.out.2.1 HVS.out.2.2.2).tch hq12 (fun b hb => ⟨hb.2, by have := HK2S.out.lt; omega⟩)).mono fun b hb => ⟨hb.1, by omega⟩
          simp only [hw12]
          obtain ⟨hd, hhd, hhl⟩ := HHD.out
          rw [HL.out] at hhl
          have hdn1 : (nAt ns1 0).next = (hd : Int) := by
            have h1 := congrArg ND.next (HEQ.out.nAt 0)
            have h2 : nAt (growN ns slot) 0 = nAt ns 0 := by
              unfold growN
              split
              · unfold nAt; rw [List.getD_eq_getElem?_getD, List.getD_eq_getElem?_getD, List.getElem?_append_left (by rw [HL.out]; omega)]
              · rfl
            rw [h2] at h1
            exact h1.symm.trans hhd
          have hhN : hd < (n + 1) := by omega
          have hn1p : 0 < ns1.length := by rw [HN1.out]; omega
          have y5 : w12.cell? ⟨g', 5, none⟩ = some (.int .i64 (hd : Int)) := by
            have := hP12.own.row.cell (flat_get2 (getElem_nAt hn1p) 5 (by decide))
            rw [Nat.zero_mul, Nat.zero_add, hdn1] at this
            exact this
          have x12 : w12.cell? ⟨w.heap.size, 0, none⟩ = some (.slice (some ⟨g', 0, none⟩) (n + 1) c') := by rw [← HN1.out]; exact hP12.pl.cell 0
          have hLv : IntKind.i64.wrap (level + 1) = ((level.toNat + 1 : Nat) : Int) := by rw [IntWalk.i64_in _ (by omega)]; omega
          obtain ⟨W13, hW13⟩ : ∃ x, w12.drew.alloc (.cells (madeCells #[.slice none 0 0] (level.toNat + 1)) 23) = x := ⟨_, rfl⟩
          have b13 : Below w12.heap.size w12 W13 := by rw [← hW13]; exact (below_drewN (Below.refl _ w12) 1).alloc (Nat.le_refl _) _
          have MK13 : (Instr.makeSlice 47 (.int .i64 ((level.toNat + 1 : Nat) : Int)) (.int .i64 ((level.toNat + 1 : Nat) : Int))).run Try.prog w12.drew = .ok (.slice (some ⟨w12.drew.heap.size, 0, none⟩) (level.toNat + 1) (level.toNat + 1)) W13 := by rw [← hW13]; exact make_lists _ (by omega) _
          have hRw : Rw W13 w12.drew.heap.size 23 ((level.toNat + 1) * 1) ((List.replicate (level.toNat + 1) (⟨none, 0, 0, []⟩ : IS)).map IS.v) := by rw [← hW13]; exact made_rw _ _
          have hNil : ∀ (Z : World) (S : Nat → Prop), ∀ l ∈ List.replicate (level.toNat + 1) (⟨none, 0, 0, []⟩ : IS), l.AtS Z S .i64 ∧ l.n ≤ l.c := by
            intro Z S l hl
            rw [(List.mem_replicate.1 hl).2]
            exact ⟨⟨fun _ => ⟨rfl, rfl⟩, Nat.zero_le _, ⟨rfl, fun h => absurd h (by decide)⟩, (fun x hx => by cases hx)⟩, Nat.le_refl _⟩
          have hND := hP12.node b13 (i := slot) (by rw [HN1.out]; exact hsN) (d := ⟨id, ⟨A11, vn, c11, vxs⟩, tags, level, some ⟨w12.drew.heap.size, 0, none⟩, level.toNat + 1, level.toNat + 1, List.replicate (level.toNat + 1) ⟨none, 0, 0, []⟩, (hd : Int), 0⟩) (h := w12.drew.heap.size) (Nat.le_refl _)
            ⟨(hv12.tch (Tch.of_below (S := fun _ => False) b13) fun b hb => ⟨hb.2, fun h => h⟩).mono fun b hb => ⟨by have := b13.size; omega, .inl ⟨hb.2, fun hw => by have := HPT1.out.own.wB b hw; omega⟩⟩,
             fun e => (by cases e), (by show level.toNat + 1 ≤ _; omega), by simp, fun l hl => (hNil _ _ l hl).1, HID.out, (show (Lit.int .i64 level).wf = true from wf_i64 (by omega) (by omega)), (show (Lit.int .i64 (hd : Int)).wf = true from wf_i64 (by omega) (by omega)), rfl, fun l hl => (hNil W13 (fun _ => True) l hl).2⟩
            ⟨rfl, Nat.le_refl _, hRw⟩
          obtain ⟨hth, W', hl', hP14⟩ := hND
          have SN14 : (Instr.storeAt 49 (.pointer (some ⟨g', 0 + slot * 7, none⟩)) (.agg #[.int .u64 id, .slice A11 vn c11, .int .u64 tags, .int .i64 level, .slice (some ⟨w12.drew.heap.size, 0, none⟩) (level.toNat + 1) (level.toNat + 1), .int .i64 (hd : Int), .int .i64 0])).run Try.prog W13 = .ok () (W13.setCells g' (slot * 7) (ND.cells ⟨id, ⟨A11, vn, c11, vxs⟩, tags, level, some ⟨w12.drew.heap.size, 0, none⟩, level.toNat + 1, level.toNat + 1, List.replicate (level.toNat + 1) ⟨none, 0, 0, []⟩, (hd : Int), 0⟩).toList) := by
            rw [Nat.zero_add]
            exact run_storeAt_mid W13 g' (slot * 7) 49 (ND.cells ⟨id, ⟨A11, vn, c11, vxs⟩, tags, level, some ⟨w12.drew.heap.size, 0, none⟩, level.toNat + 1, level.toNat + 1, List.replicate (level.toNat + 1) ⟨none, 0, 0, []⟩, (hd : Int), 0⟩) hth nodeT (node_one _)
          obtain ⟨W14, hW14⟩ : ∃ x, W13.setCells g' (slot * 7) (ND.cells ⟨id, ⟨A11, vn, c11, vxs⟩, tags, level, some ⟨w12.drew.heap.size, 0, none⟩, level.toNat + 1, level.toNat + 1, List.replicate (level.toNat + 1) ⟨none, 0, 0, []⟩, (hd : Int), 0⟩).toList = x := ⟨_, rfl⟩
          rw [hW14] at SN14 hP14
          have hgB := HPT1.out.own.gB
          have hbB := HPT1.out.bB
          have k13 := k12.below b13 k12.lt
          have k14 : Blk W14 (w.heap.size + 1) 32 (itL id A11 vn c11 tags) := by rw [← hW14]; exact k13.tch (Tch.setCells (S := fun k => k = g') rfl _ _ _ (Tch.refl _ _)) (by omega)
          have hn2 : (ns1.set slot ⟨id, ⟨A11, vn, c11, vxs⟩, tags, level, some ⟨w12.drew.heap.size, 0, none⟩, level.toNat + 1, level.toNat + 1, List.replicate (level.toNat + 1) ⟨none, 0, 0, []⟩, (hd : Int), 0⟩).length = (n + 1) := by rw [List.length_set, HN1.out]
          have hs1 : 1 ≤ slot := hs1
          have hdn2 : (nAt (ns1.set slot ⟨id, ⟨A11, vn, c11, vxs⟩, tags, level, some ⟨w12.drew.heap.size, 0, none⟩, level.toNat + 1, level.toNat + 1, List.replicate (level.toNat + 1) ⟨none, 0, 0, []⟩, (hd : Int), 0⟩) 0).next = (hd : Int) := by
            rw [← hdn1]
            unfold nAt
            rw [List.getD_eq_getElem?_getD, List.getD_eq_getElem?_getD, List.getElem?_set_ne (by omega)]
          have y14 : W14.cell? ⟨g', 5, none⟩ = some (.int .i64 (hd : Int)) := by
            have := hP14.own.row.cell (flat_get2 (getElem_nAt (ns := ns1.set slot ⟨id, ⟨A11, vn, c11, vxs⟩, tags, level, some ⟨w12.drew.heap.size, 0, none⟩, level.toNat + 1, level.toNat + 1, List.replicate (level.toNat + 1) ⟨none, 0, 0, []⟩, (hd : Int), 0⟩) (i := 0) (by rw [hn2]; omega)) 5 (by decide))
            rw [Nat.zero_mul, Nat.zero_add, hdn2] at this
            exact this
          have x14 : W14.cell? ⟨w.heap.size, 0, none⟩ = some (.slice (some ⟨g', 0, none⟩) (n + 1) c') := by rw [← hn2]; exact hP14.pl.cell 0
          have S12 := Lib.hid (show w12.drew.cell? ⟨w.heap.size, 0, none⟩ = some (.slice (some ⟨g', 0, none⟩) (n + 1) c') ∧ Blk w12.drew (w.heap.size + 1) 32 (itL id A11 vn c11 tags) ∧ w12.drew.cell? ⟨g', 5, none⟩ = some (.int .i64 (hd : Int)) from ⟨x12, k12, y5⟩)
          have S13 := Lib.hid (show W13.cell? ⟨w.heap.size, 0, none⟩ = some (.slice (some ⟨g', 0, none⟩) (n + 1) c') ∧ Blk W13 (w.heap.size + 1) 32 (itL id A11 vn c11 tags) ∧ W13.cell? ⟨g', 5, none⟩ = some (.int .i64 (hd : Int)) from ⟨(b13.cell (p := ⟨w.heap.size, 0, none⟩) hP12.pl.lt).trans x12, k13, (b13.cell (p := ⟨g', 5, none⟩) hP12.own.row.lt).trans y5⟩)
          have S14 := Lib.hid (show W14.cell? ⟨w.heap.size, 0, none⟩ = some (.slice (some ⟨g', 0, none⟩) (n + 1) c') ∧ Blk W14 (w.heap.size + 1) 32 (itL id A11 vn c11 tags) ∧ W14.cell? ⟨g', 5, none⟩ = some (.int .i64 (hd : Int)) from ⟨x14, k14, y14⟩)
          have hP14d : PtS w W14.drew (w.heap.size + 1 + 1) B g' c' en tp W' hl' (ns1.set slot ⟨id, ⟨A11, vn, c11, vxs⟩, tags, level, some ⟨w12.drew.heap.size, 0, none⟩, level.toNat + 1, level.toNat + 1, List.replicate (level.toNat + 1) ⟨none, 0, 0, []⟩, (hd : Int), 0⟩) := hP14.more (below_drewN (Below.refl _ W14) 1)
          obtain ⟨p1, p2, hP16⟩ := hP14d.prev (i := hd) (v := (slot : Int)) (by rw [hn2]; exact hhN) (wf_i64 (by omega) (by omega))
          have SN16 : (Instr.storeAt 3 (.pointer (some ⟨g', 0 + hd * 7 + 6, none⟩)) (.int .i64 (slot : Int))).run Try.prog W14.drew = .ok () (W14.drew.setCell ⟨g', hd * 7 + 6, none⟩ (.int .i64 (slot : Int))) := by
            rw [Nat.zero_add]
            simp [go_sem, p1, p2]
          have S15 := Lib.hid (show W14.drew.cell? ⟨w.heap.size, 0, none⟩ = some (.slice (some ⟨g', 0, none⟩) (n + 1) c') ∧ W14.drew.cell? ⟨g', 5, none⟩ = some (.int .i64 (hd : Int)) from ⟨x14, y14⟩)
          obtain ⟨W16, hW16⟩ : ∃ x, W14.drew.setCell ⟨g', hd * 7 + 6, none⟩ (.int .i64 (slot : Int)) = x := ⟨_, rfl⟩
          rw [hW16] at SN16 hP16
          have hn3 : ((ns1.set slot ⟨id, ⟨A11, vn, c11, vxs⟩, tags, level, some ⟨w12.drew.heap.size, 0, none⟩, level.toNat + 1, level.toNat + 1, List.replicate (level.toNat + 1) ⟨none, 0, 0, []⟩, (hd : Int), 0⟩).set hd { nAt (ns1.set slot ⟨id, ⟨A11, vn, c11, vxs⟩, tags, level, some ⟨w12.drew.heap.size, 0, none⟩, level.toNat + 1, level.toNat + 1, List.replicate (level.toNat + 1) ⟨none, 0, 0, []⟩, (hd : Int), 0⟩) hd with prev := (slot : Int) }).length = (n + 1) := by rw [List.length_set, hn2]
          have x16 : W16.cell? ⟨w.heap.size, 0, none⟩ = some (.slice (some ⟨g', 0, none⟩) (n + 1) c') := by rw [← hn3]; exact hP16.pl.cell 0
          have y16 : W16.cell? ⟨g', 5, none⟩ = some (.int .i64 (hd : Int)) := by
            rw [← hW16]
            rw [World.cell?_setCell_other _ _ _ _ (by intro e; injection e with _ e; omega)]
            exact y14
          have S16 := Lib.hid (show W16.cell? ⟨w.heap.size, 0, none⟩ = some (.slice (some ⟨g', 0, none⟩) (n + 1) c') ∧ W16.cell? ⟨g', 5, none⟩ = some (.int .i64 (hd : Int)) from ⟨x16, y16⟩)
          obtain ⟨p3, p4, hP17⟩ := hP16.next (i := 0) (v := (slot : Int)) (by rw [hn3]; omega) (wf_i64 (by omega) (by omega))
          rw [Nat.zero_mul, Nat.zero_add] at p3 p4 hP17
          have hFE : Eqv (putSt ns slot (putND ns id vn vxs tags level)) (((ns1.set slot ⟨id, ⟨A11, vn, c11, vxs⟩, tags, level, some ⟨w12.drew.heap.size, 0, none⟩, level.toNat + 1, level.toNat + 1, List.replicate (level.toNat + 1) ⟨none, 0, 0, []⟩, (hd : Int), 0⟩).set hd { nAt (ns1.set slot ⟨id, ⟨A11, vn, c11, vxs⟩, tags, level, some ⟨w12.drew.heap.size, 0, none⟩, level.toNat + 1, level.toNat + 1, List.replicate (level.toNat + 1) ⟨none, 0, 0, []⟩, (hd : Int), 0⟩) hd with prev := (slot : Int) }).set 0 { nAt ((ns1.set slot ⟨id, ⟨A11, vn, c11, vxs⟩, tags, level, some ⟨w12.drew.heap.size, 0, none⟩, level.toNat + 1, level.toNat + 1, List.replicate (level.toNat + 1) ⟨none, 0, 0, []⟩, (hd : Int), 0⟩).set hd { nAt (ns1.set slot ⟨id, ⟨A11, vn, c11, vxs⟩, tags, level, some ⟨w12.drew.heap.size, 0, none⟩, level.toNat + 1, level.toNat + 1, List.replicate (level.toNat + 1) ⟨none, 0, 0, []⟩, (hd : Int), 0⟩) hd with prev := (slot : Int) }) 0 with next := (slot : Int) }) := by
            unfold putSt
            rw [hhd, Int.toNat_natCast]
            refine linkN_eqv (HEQ.out.set slot ?_) hd slot
            unfold putND ND.norm IS.norm
            rw [hhd]
          obtain ⟨ns9, hns9⟩ : ∃ x, (((ns1.set slot ⟨id, ⟨A11, vn, c11, vxs⟩, tags, level, some ⟨w12.drew.heap.size, 0, none⟩, level.toNat + 1, level.toNat + 1, List.replicate (level.toNat + 1) ⟨none, 0, 0, []⟩, (hd : Int), 0⟩).set hd { nAt (ns1.set slot ⟨id, ⟨A11, vn, c11, vxs⟩, tags, level, some ⟨w12.drew.heap.size, 0, none⟩, level.toNat + 1, level.toNat + 1, List.replicate (level.toNat + 1) ⟨none, 0, 0, []⟩, (hd : Int), 0⟩) hd with prev := (slot : Int) }).set 0 { nAt ((ns1.set slot ⟨id, ⟨A11, vn, c11, vxs⟩, tags, level, some ⟨w12.drew.heap.size, 0, none⟩, level.toNat + 1, level.toNat + 1, List.replicate (level.toNat + 1) ⟨none, 0, 0, []⟩, (hd : Int), 0⟩).set hd { nAt (ns1.set slot ⟨id, ⟨A11, vn, c11, vxs⟩, tags, level, some ⟨w12.drew.heap.size, 0, none⟩, level.toNat + 1, level.toNat + 1, List.replicate (level.toNat + 1) ⟨none, 0, 0, []⟩, (hd : Int), 0⟩) hd with prev := (slot : Int) }) 0 with next := (slot : Int) }) = x := ⟨_, rfl⟩
          rw [hns9] at hP17 hFE
          have hn9 : ns9.length = (n + 1) := by rw [← hns9, List.length_set, hn3]
          obtain ⟨W17, hW17⟩ : ∃ x, W16.setCell ⟨g', 5, none⟩ (.int .i64 (slot : Int)) = x := ⟨_, rfl⟩
          rw [hW17] at hP17
          have LP17 := plane_load hP17.pl
          have SR17 := row_store hP17.res (pgL (some ⟨g', 0, none⟩) ns9.length c' en tp) rfl planeT (by simp [pgL, Value.oneCell'])
          have HFI := Lib.hid (hP17.fin (en := en) (tp := tp) hP17.res)
          rw [hn9] at LP17 SR17 HFI
          obtain ⟨W18, hW18⟩ : ∃ x, W17.setCells (w.heap.size + 1 + 1) 0 (pgL (some ⟨g', 0, none⟩) (n + 1) c' en tp).toList = x := ⟨_, rfl⟩
          rw [hW18] at SR17 HFI
          have HFE := Lib.hid hFE
          have HY5 := Lib.hid p3
          have HF5 := Lib.hid p4
          have HW13 := Lib.hid hW13
          have HW16 := Lib.hid hW16
          have HW17 := Lib.hid hW17
          clear hW18 hn9 hns9 hP17 hP16 hP14 hP14d hn3 hn2 x16 y16 p1 p2 p3 p4 x14 y14 k14 k13 hth hW14 hRw hNil b13 x12 y5 k12 hv12 hP12 hq12 hs12 hw12 hdn1 hdn2 hhd hn1p x0 q1 z1 f1 HCV hW13 hW16 hW17 hFE HK2S
          refine wp_region_held_drew (S := fun w' => w'.cell? ⟨w.heap.size, 0, none⟩ = some (.slice (some ⟨g', 0, none⟩) (n + 1) c') ∧ Blk w' (w.heap.size + 1) 32 (itL id A11 vn c11 tags) ∧ w'.cell? ⟨g', 5, none⟩ = some (.int .i64 (hd : Int))) (by kernel_rfl) S12.out (fun hH => ?_)
          refine wpAnyH_take (i := 0) (v := .pointer (some ⟨w.heap.size, 0, none⟩)) rfl (by kernel_rfl) (by kernel_rfl) (by kernel_rfl) (fun _ _ _ h => h) (.inl ⟨by rfl, fun _ _ => by kernel_rfl⟩) hH ?_
          (try simp only [List.getElem_toArray, List.getElem_cons_zero, Act.put, List.setIfInBounds_toArray, List.set_cons_zero, List.set_cons_succ])
          refine wpAnyH_take (i := 1) (v := .slice (some ⟨g', 0, none⟩) (n + 1) c') rfl (by kernel_rfl) (by kernel_rfl) (by kernel_rfl) (fun _ _ _ h => h) (yieldsIf_loadP (by rfl) _ rfl rfl (fun _ q => load_nodes q.1)) hH ?_
          (try simp only [List.getElem_toArray, List.getElem_cons_zero, List.getElem_cons_succ, Act.put, List.setIfInBounds_toArray, List.set_cons_zero, List.set_cons_succ])
          refine wpAnyH_take (i := 2) (v := .int .i64 (slot : Int)) rfl (by kernel_rfl) (by kernel_rfl) (by kernel_rfl) (fun _ _ _ h => h) (.inl ⟨by rfl, fun _ _ => by kernel_rfl⟩) hH ?_
          (try simp only [List.getElem_toArray, List.getElem_cons_zero, List.getElem_cons_succ, Act.put, List.setIfInBounds_toArray, List.set_cons_zero, List.set_cons_succ])
          refine wpAnyH_take (i := 3) (v := .agg (itL id A11 vn c11 tags)) rfl (by kernel_rfl) (by kernel_rfl) (by kernel_rfl) (fun _ _ _ h => h) (yieldsIf_loadP (by rfl) _ rfl rfl (fun _ q => item_load q.2.1)) hH ?_
          (try simp only [List.getElem_toArray, List.getElem_cons_zero, List.getElem_cons_succ, Act.put, List.setIfInBounds_toArray, List.set_cons_zero, List.set_cons_succ])
          refine wpAnyH_take (i := 4) (v := .int .i64 level) rfl (by kernel_rfl) (by kernel_rfl) (by kernel_rfl) (fun _ _ _ h => h) (.inl ⟨by rfl, fun _ _ => by kernel_rfl⟩) hH ?_
          (try simp only [List.getElem_toArray, List.getElem_cons_zero, List.getElem_cons_succ, Act.put, List.setIfInBounds_toArray, List.set_cons_zero, List.set_cons_succ])
          refine wpAnyH_take (i := 5) (v := .int .i64 level) rfl (by kernel_rfl) (by kernel_rfl) (by kernel_rfl) (fun _ _ _ h => h) (.inl ⟨by rfl, fun _ _ => by kernel_rfl⟩) hH ?_
          (try simp only [List.getElem_toArray, List.getElem_cons_zero, List.getElem_cons_succ, Act.put, List.setIfInBounds_toArray, List.set_cons_zero, List.set_cons_succ])
          refine wpAnyH_take (i := 6) (v := .int .i64 (((level.toNat + 1) : Nat) : Int)) rfl (by kernel_rfl) (by kernel_rfl) (by kernel_rfl) (fun _ _ _ h => h) (yieldsIf_addR (by rfl) _ _ rfl rfl rfl hLv) hH ?_
          (try simp only [List.getElem_toArray, List.getElem_cons_zero, List.getElem_cons_succ, Act.put, List.setIfInBounds_toArray, List.set_cons_zero, List.set_cons_succ])
          refine wpAnyH_take (i := 8) (v := .pointer (some ⟨g', 0, none⟩)) rfl (by kernel_rfl) (by kernel_rfl) (by kernel_rfl) (fun _ _ _ h => h) (.inl ⟨by rfl, fun _ _ => by kernel_rfl⟩) hH ?_
          (try simp only [List.getElem_toArray, List.getElem_cons_zero, List.getElem_cons_succ, Act.put, List.setIfInBounds_toArray, List.set_cons_zero, List.set_cons_succ])
          refine wpAnyH_take (i := 9) (v := .pointer (some ⟨g', 0, none⟩)) rfl (by kernel_rfl) (by kernel_rfl) (by kernel_rfl) (fun _ _ _ h => h) (.inl ⟨by rfl, fun _ _ => by kernel_rfl⟩) hH ?_
          (try simp only [List.getElem_toArray, List.getElem_cons_zero, List.getElem_cons_succ, Act.put, List.setIfInBounds_toArray, List.set_cons_zero, List.set_cons_succ])
          refine wpAnyH_take (i := 10) (v := .pointer (some ⟨g', 5, none⟩)) rfl (by kernel_rfl) (by kernel_rfl) (by kernel_rfl) (fun _ _ _ h => h) (.inl ⟨by rfl, fun _ _ => by kernel_rfl⟩) hH ?_
          (try simp only [List.getElem_toArray, List.getElem_cons_zero, List.getElem_cons_succ, Act.put, List.setIfInBounds_toArray, List.set_cons_zero, List.set_cons_succ])
          refine wpAnyH_take (i := 11) (v := .int .i64 (hd : Int)) rfl (by kernel_rfl) (by kernel_rfl) (by kernel_rfl) (fun _ _ _ h => h) (yieldsIf_loadP (by rfl) _ rfl rfl (fun _ q => load_i64 q.2.2)) hH ?_
          (try simp only [List.getElem_toArray, List.getElem_cons_zero, List.getElem_cons_succ, Act.put, List.setIfInBounds_toArray, List.set_cons_zero, List.set_cons_succ])
          refine wpAnyH_make 7 (.slice (some ⟨w12.drew.heap.size, 0, none⟩) (level.toNat + 1) (level.toNat + 1)) (by kernel_rfl) (by rfl) (by kernel_rfl) (exec_make (by rfl) (by rfl) (by rfl) MK13) S13.out ?_
          (try simp only [List.getElem_toArray, List.getElem_cons_zero, List.getElem_cons_succ, Act.put, List.setIfInBounds_toArray, List.set_cons_zero, List.set_cons_succ])
          refine wpAnyH_take (i := 12) (v := .agg #[.int .u64 id, .slice A11 vn c11, .int .u64 tags, .int .i64 level, .slice (some ⟨w12.drew.heap.size, 0, none⟩) (level.toNat + 1) (level.toNat + 1), .int .i64 (hd : Int), .int .i64 0]) rfl (by kernel_rfl) (by kernel_rfl) (by kernel_rfl) (fun _ _ _ h => h) (.inl ⟨by rfl, fun _ _ => by kernel_rfl⟩) S13.out ?_
          (try simp only [List.getElem_toArray, List.getElem_cons_zero, List.getElem_cons_succ, Act.put, List.setIfInBounds_toArray, List.set_cons_zero, List.set_cons_succ])
          refine wpAnyH_take (i := 13) (v := .pointer (some ⟨g', 0 + slot * 7, none⟩)) rfl (by kernel_rfl) (by kernel_rfl) (by kernel_rfl) (fun _ _ _ h => h) (yieldsIf_index Try.underlying25 sz_node (by rfl) _ _ rfl rfl rfl hsN) S13.out ?_
          (try simp only [List.getElem_toArray, List.getElem_cons_zero, List.getElem_cons_succ, Act.put, List.setIfInBounds_toArray, List.set_cons_zero, List.set_cons_succ])
          refine wpAnyH_store 14 _ _ _ (by kernel_rfl) (by rfl) (by kernel_rfl) (by rfl) (by rfl) (by rfl) (SN14) (S14.out) ?_
          refine wpAnyH_done (by kernel_rfl) ?_ _

          clear hH
          go_upto_region 23 with fail
          refine wp_region_held_drew (S := fun w' => w'.cell? ⟨w.heap.size, 0, none⟩ = some (.slice (some ⟨g', 0, none⟩) (n + 1) c') ∧ w'.cell? ⟨g', 5, none⟩ = some (.int .i64 (hd : Int))) (by kernel_rfl) S15.out (fun hH => ?_)
          refine wpAnyH_take (i := 0) (v := .pointer (some ⟨w.heap.size, 0, none⟩)) rfl (by kernel_rfl) (by kernel_rfl) (by kernel_rfl) (fun _ _ _ h => h) (.inl ⟨by rfl, fun _ _ => by kernel_rfl⟩) hH ?_
          (try simp only [List.getElem_toArray, List.getElem_cons_zero, Act.put, List.setIfInBounds_toArray])
          refine wpAnyH_take (i := 1) (v := .slice (some ⟨g', 0, none⟩) (n + 1) c') rfl (by kernel_rfl) (by kernel_rfl) (by kernel_rfl) (fun _ _ _ h => h) (yieldsIf_loadP (by rfl) _ rfl rfl (fun _ q => load_nodes q.1)) hH ?_
          (try simp only [List.getElem_toArray, List.getElem_cons_zero, List.getElem_cons_succ, Act.put, List.setIfInBounds_toArray, List.set_cons_zero, List.set_cons_succ])
          refine wpAnyH_take (i := 2) (v := .pointer (some ⟨g', 0, none⟩)) rfl (by kernel_rfl) (by kernel_rfl) (by kernel_rfl) (fun _ _ _ h => h) (.inl ⟨by rfl, fun _ _ => by kernel_rfl⟩) hH ?_
          (try simp only [List.getElem_toArray, List.getElem_cons_zero, List.getElem_cons_succ, Act.put, List.setIfInBounds_toArray, List.set_cons_zero, List.set_cons_succ])
          refine wpAnyH_take (i := 3) (v := .pointer (some ⟨g', 0, none⟩)) rfl (by kernel_rfl) (by kernel_rfl) (by kernel_rfl) (fun _ _ _ h => h) (.inl ⟨by rfl, fun _ _ => by kernel_rfl⟩) hH ?_
          (try simp only [List.getElem_toArray, List.getElem_cons_zero, List.getElem_cons_succ, Act.put, List.setIfInBounds_toArray, List.set_cons_zero, List.set_cons_succ])
          refine wpAnyH_take (i := 4) (v := .pointer (some ⟨g', 5, none⟩)) rfl (by kernel_rfl) (by kernel_rfl) (by kernel_rfl) (fun _ _ _ h => h) (.inl ⟨by rfl, fun _ _ => by kernel_rfl⟩) hH ?_
          (try simp only [List.getElem_toArray, List.getElem_cons_zero, List.getElem_cons_succ, Act.put, List.setIfInBounds_toArray, List.set_cons_zero, List.set_cons_succ])
          refine wpAnyH_take (i := 5) (v := .int .i64 (hd : Int)) rfl (by kernel_rfl) (by kernel_rfl) (by kernel_rfl) (fun _ _ _ h => h) (yieldsIf_loadP (by rfl) _ rfl rfl (fun _ q => load_i64 q.2)) hH ?_
          (try simp only [List.getElem_toArray, List.getElem_cons_zero, List.getElem_cons_succ, Act.put, List.setIfInBounds_toArray, List.set_cons_zero, List.set_cons_succ])
          refine wpAnyH_take (i := 6) (v := .int .i64 (slot : Int)) rfl (by kernel_rfl) (by kernel_rfl) (by kernel_rfl) (fun _ _ _ h => h) (.inl ⟨by rfl, fun _ _ => by kernel_rfl⟩) hH ?_
          (try simp only [List.getElem_toArray, List.getElem_cons_zero, List.getElem_cons_succ, Act.put, List.setIfInBounds_toArray, List.set_cons_zero, List.set_cons_succ])
          refine wpAnyH_take (i := 7) (v := .pointer (some ⟨g', 0 + hd * 7, none⟩)) rfl (by kernel_rfl) (by kernel_rfl) (by kernel_rfl) (fun _ _ _ h => h) (yieldsIf_index Try.underlying25 sz_node (by rfl) _ _ rfl rfl rfl hhN) hH ?_
          (try simp only [List.getElem_toArray, List.getElem_cons_zero, List.getElem_cons_succ, Act.put, List.setIfInBounds_toArray, List.set_cons_zero, List.set_cons_succ])
          refine wpAnyH_take (i := 8) (v := .pointer (some ⟨g', 0 + hd * 7 + 6, none⟩)) rfl (by kernel_rfl) (by kernel_rfl) (by kernel_rfl) (fun _ _ _ h => h) (.inl ⟨by rfl, fun _ _ => by kernel_rfl⟩) hH ?_
          (try simp only [List.getElem_toArray, List.getElem_cons_zero, List.getElem_cons_succ, Act.put, List.setIfInBounds_toArray, List.set_cons_zero, List.set_cons_succ])
          refine wpAnyH_store 9 _ _ _ (by kernel_rfl) (by rfl) (by kernel_rfl) (by rfl) (by rfl) (by rfl) (SN16) (S16.out) ?_
          refine wpAnyH_done (by kernel_rfl) ?_ _

          clear hH
          obtain ⟨u5, hu5⟩ : ∃ u, W16.cell? ⟨g', 5, none⟩ = some u := ⟨_, HY5.out⟩
          have hf5 := HF5.out
          go_upto_region 25 with fail
          simp only [HW17.out]
          clear hu5 hf5
          unfold pgL at LP17 SR17
          go_wp2_with (first | ((with_reducible refine wpList_loadE (op := ⟨some 101, _, _, _, _, _⟩) LP17 ?leX ?leG ?leO ?leE ?_); (case leO => exact rfl); (case leE => exact rfl); (case leG => exact rfl)) | refine wpList_storeE SR17 _ _ rfl rfl rfl rfl ?_)
          refine bodyPost_ret (v := .tuple #[.agg (pgL (some ⟨g', 0, none⟩) (n + 1) c' en tp), .int .i64 (slot : Int), .int .i64 0]) ?_ rfl (.inr ⟨HY.out, g', (n + 1), c', ns9, by rw [HSL.out], HFI.out.2.1, by rw [HSL.out]; exact HFE.out, HFI.out.2.2⟩)
          exact results_row12 Try.results7 _ rfl HFI.out.1 Try.underlying27 rfl planeT
        · have e5 : ((slot : Int) == (n : Int)) = false := beq_false_of_ne (by omega)
          have e6 : (slot == n) = false := beq_false_of_ne hsn
          go_upto_region 20 with fail
          have HN1 : Hid (ns7.length = n) := HN7
          have HEQ : Hid (Eqv (growN ns slot) ns7) := by
            show Eqv _ _
            unfold growN
            rw [if_neg (by rw [HL.out]; exact hsn)]
            exact HE7.out
          have hsN : slot < n := by omega
          have HPT1 := HPT0
          have HK2S := HK28
          clear e5 e6 hsn x0 HPT0 HK28
          have q1 : w8.cell? ⟨w.heap.size + 1, 1, none⟩ = some (.slice vA vn vc) := HK2S.out.cell 1
          have x0 : w8.cell? ⟨w.heap.size, 0, none⟩ = some (.slice (some ⟨g, 0, none⟩) n c7) := by rw [← HN1.out]; exact HPT1.out.pl.cell 0
          have hVS := (HV.out.below HPT1.out.bel).more HPT1.out.bel.size
          have HCV := Lib.hid (sl_cloneV vA vn vc vxs w8 hVS.2.2.1 hVS.2.1 hVS.1)
          have HVS := Lib.hid hVS
          have hN0 : 0 < n := by omega
          clear hVS
          go_upto_region 22 with (go_at_call 24; (with_reducible refine HCV.out.mono ?_); rintro e w11 ⟨A11, c11, rfl, ho11, _, b11⟩; have HO11 := Lib.hid ho11; have HB11 := Lib.hid b11; have z1 : w11.cell? ⟨w.heap.size + 1, 1, none⟩ = some (.slice vA vn vc) := (HK2S.out.below b11 HK2S.out.lt).cell 1; have f1 : w11.frozen? ⟨w.heap.size + 1, 1, none⟩ = false := (HK2S.out.below b11 HK2S.out.lt).frozen 1; clear ho11 b11)
          obtain ⟨w12, hw12⟩ : ∃ x, w11.setCell ⟨w.heap.size + 1, 1, none⟩ (.slice A11 vn c11) = x := ⟨_, rfl⟩
          have hq12 : Tch (fun k => k = w.heap.size + 1) w11 w12 := by rw [← hw12]; exact Tch.setCell (S := fun k => k = w.heap.size + 1) (Tch.refl _ _) rfl _ _
          have hP12 := (HPT1.out.more HB11.out).off hq12 ⟨by omega, by omega⟩
          have k12 : Blk w12 (w.heap.size + 1) 32 (itL id A11 vn c11 tags) := by rw [← hw12]; exact (HK2S.out.below HB11.out HK2S.out.lt).set_ 1 _
          have hs12 : w12.heap.size = w11.heap.size := by rw [← hw12]; simp [World.setCell]
          have hv12 : IS.AtS w12 (fun k => w8.heap.size ≤ k ∧ k < w12.heap.size) .i32 ⟨A11, vn, c11, vxs⟩ := ((vec_own HO11.out HVS.out.2.1 HVS.out.2.2.2).tch hq12 (fun b hb => ⟨hb.2, by have := HK2S.out.lt; omega⟩)).mono fun b hb => ⟨hb.1, by omega⟩
          simp only [hw12]
          obtain ⟨hd, hhd, hhl⟩ := HHD.out
          rw [HL.out] at hhl
          have hdn1 : (nAt ns7 0).next = (hd : Int) := by
            have h1 := congrArg ND.next (HEQ.out.nAt 0)
            have h2 : nAt (growN ns slot) 0 = nAt ns 0 := by
              unfold growN
              split
              · unfold nAt; rw [List.getD_eq_getElem?_getD, List.getD_eq_getElem?_getD, List.getElem?_append_left (by rw [HL.out]; omega)]
              · rfl
            rw [h2] at h1
            exact h1.symm.trans hhd
          have hhN : hd < n := by omega
          have hn1p : 0 < ns7.length := by rw [HN1.out]; omega
          have y5 : w12.cell? ⟨g, 5, none⟩ = some (.int .i64 (hd : Int)) := by
            have := hP12.own.row.cell (flat_get2 (getElem_nAt hn1p) 5 (by decide))
            rw [Nat.zero_mul, Nat.zero_add, hdn1] at this
            exact this
          have x12 : w12.cell? ⟨w.heap.size, 0, none⟩ = some (.slice (some ⟨g, 0, none⟩) n c7) := by rw [← HN1.out]; exact hP12.pl.cell 0
          have hLv : IntKind.i64.wrap (level + 1) = ((level.toNat + 1 : Nat) : Int) := by rw [IntWalk.i64_in _ (by omega)]; omega
          obtain ⟨W13, hW13⟩ : ∃ x, w12.drew.alloc (.cells (madeCells #[.slice none 0 0] (level.toNat + 1)) 23) = x := ⟨_, rfl⟩
          have b13 : Below w12.heap.size w12 W13 := by rw [← hW13]; exact (below_drewN (Below.refl _ w12) 1).alloc (Nat.le_refl _) _
          have MK13 : (Instr.makeSlice 47 (.int .i64 ((level.toNat + 1 : Nat) : Int)) (.int .i64 ((level.toNat + 1 : Nat) : Int))).run Try.prog w12.drew = .ok (.slice (some ⟨w12.drew.heap.size, 0, none⟩) (level.toNat + 1) (level.toNat + 1)) W13 := by rw [← hW13]; exact make_lists _ (by omega) _
          have hRw : Rw W13 w12.drew.heap.size 23 ((level.toNat + 1) * 1) ((List.replicate (level.toNat + 1) (⟨none, 0, 0, []⟩ : IS)).map IS.v) := by rw [← hW13]; exact made_rw _ _
          have hNil : ∀ (Z : World) (S : Nat → Prop), ∀ l ∈ List.replicate (level.toNat + 1) (⟨none, 0, 0, []⟩ : IS), l.AtS Z S .i64 ∧ l.n ≤ l.c := by
            intro Z S l hl
            rw [(List.mem_replicate.1 hl).2]
            exact ⟨⟨fun _ => ⟨rfl, rfl⟩, Nat.zero_le _, ⟨rfl, fun h => absurd h (by decide)⟩, (fun x hx => by cases hx)⟩, Nat.le_refl _⟩
          have hND := hP12.node b13 (i := slot) (by rw [HN1.out]; exact hsN) (d := ⟨id, ⟨A11, vn, c11, vxs⟩, tags, level, some ⟨w12.drew.heap.size, 0, none⟩, level.toNat + 1, level.toNat + 1, List.replicate (level.toNat + 1) ⟨none, 0, 0, []⟩, (hd : Int), 0⟩) (h := w12.drew.heap.size) (Nat.le_refl _)
            ⟨(hv12.tch (Tch.of_below (S := fun _ => False) b13) fun b hb => ⟨hb.2, fun h => h⟩).mono fun b hb => ⟨by have := b13.size; omega, .inl ⟨hb.2, fun hw => by have := HPT1.out.own.wB b hw; omega⟩⟩,
             fun e => (by cases e), (by show level.toNat + 1 ≤ _; omega), by simp, fun l hl => (hNil _ _ l hl).1, HID.out, (show (Lit.int .i64 level).wf = true from wf_i64 (by omega) (by omega)), (show (Lit.int .i64 (hd : Int)).wf = true from wf_i64 (by omega) (by omega)), rfl, fun l hl => (hNil W13 (fun _ => True) l hl).2⟩
            ⟨rfl, Nat.le_refl _, hRw⟩
          obtain ⟨hth, W', hl', hP14⟩ := hND
          have SN14 : (Instr.storeAt 49 (.pointer (some ⟨g, 0 + slot * 7, none⟩)) (.agg #[.int .u64 id, .slice A11 vn c11, .int .u64 tags, .int .i64 level, .slice (some ⟨w12.drew.heap.size, 0, none⟩) (level.toNat + 1) (level.toNat + 1), .int .i64 (hd : Int), .int .i64 0])).run Try.prog W13 = .ok () (W13.setCells g (slot * 7) (ND.cells ⟨id, ⟨A11, vn, c11, vxs⟩, tags, level, some ⟨w12.drew.heap.size, 0, none⟩, level.toNat + 1, level.toNat + 1, List.replicate (level.toNat + 1) ⟨none, 0, 0, []⟩, (hd : Int), 0⟩).toList) := by
            rw [Nat.zero_add]
            exact run_storeAt_mid W13 g (slot * 7) 49 (ND.cells ⟨id, ⟨A11, vn, c11, vxs⟩, tags, level, some ⟨w12.drew.heap.size, 0, none⟩, level.toNat + 1, level.toNat + 1, List.replicate (level.toNat + 1) ⟨none, 0, 0, []⟩, (hd : Int), 0⟩) hth nodeT (node_one _)
          obtain ⟨W14, hW14⟩ : ∃ x, W13.setCells g (slot * 7) (ND.cells ⟨id, ⟨A11, vn, c11, vxs⟩, tags, level, some ⟨w12.drew.heap.size, 0, none⟩, level.toNat + 1, level.toNat + 1, List.replicate (level.toNat + 1) ⟨none, 0, 0, []⟩, (hd : Int), 0⟩).toList = x := ⟨_, rfl⟩
          rw [hW14] at SN14 hP14
          have hgB := HPT1.out.own.gB
          have hbB := HPT1.out.bB
          have k13 := k12.below b13 k12.lt
          have k14 : Blk W14 (w.heap.size + 1) 32 (itL id A11 vn c11 tags) := by rw [← hW14]; exact k13.tch (Tch.setCells (S := fun k => k = g) rfl _ _ _ (Tch.refl _ _)) (by omega)
          have hn2 : (ns7.set slot ⟨id, ⟨A11, vn, c11, vxs⟩, tags, level, some ⟨w12.drew.heap.size, 0, none⟩, level.toNat + 1, level.toNat + 1, List.replicate (level.toNat + 1) ⟨none, 0, 0, []⟩, (hd : Int), 0⟩).length = n := by rw [List.length_set, HN1.out]
          have hs1 : 1 ≤ slot := hs1
          have hdn2 : (nAt (ns7.set slot ⟨id, ⟨A11, vn, c11, vxs⟩, tags, level, some ⟨w12.drew.heap.size, 0, none⟩, level.toNat + 1, level.toNat + 1, List.replicate (level.toNat + 1) ⟨none, 0, 0, []⟩, (hd : Int), 0⟩) 0).next = (hd : Int) := by
            rw [← hdn1]
            unfold nAt
            rw [List.getD_eq_getElem?_getD, List.getD_eq_getElem?_getD, List.getElem?_set_ne (by omega)]
          have y14 : W14.cell? ⟨g, 5, none⟩ = some (.int .i64 (hd : Int)) := by
            have := hP14.own.row.cell (flat_get2 (getElem_nAt (ns := ns7.set slot ⟨id, ⟨A11, vn, c11, vxs⟩, tags, level, some ⟨w12.drew.heap.size, 0, none⟩, level.toNat + 1, level.toNat + 1, List.replicate (level.toNat + 1) ⟨none, 0, 0, []⟩, (hd : Int), 0⟩) (i := 0) (by rw [hn2]; omega)) 5 (by decide))
            rw [Nat.zero_mul, Nat.zero_add, hdn2] at this
            exact this
          have x14 : W14.cell? ⟨w.heap.size, 0, none⟩ = some (.slice (some ⟨g, 0, none⟩) n c7) := by rw [← hn2]; exact hP14.pl.cell 0
          have S12 := Lib.hid (show w12.drew.cell? ⟨w.heap.size, 0, none⟩ = some (.slice (some ⟨g, 0, none⟩) n c7) ∧ Blk w12.drew (w.heap.size + 1) 32 (itL id A11 vn c11 tags) ∧ w12.drew.cell? ⟨g, 5, none⟩ = some (.int .i64 (hd : Int)) from ⟨x12, k12, y5⟩)
          have S13 := Lib.hid (show W13.cell? ⟨w.heap.size, 0, none⟩ = some (.slice (some ⟨g, 0, none⟩) n c7) ∧ Blk W13 (w.heap.size + 1) 32 (itL id A11 vn c11 tags) ∧ W13.cell? ⟨g, 5, none⟩ = some (.int .i64 (hd : Int)) from ⟨(b13.cell (p := ⟨w.heap.size, 0, none⟩) hP12.pl.lt).trans x12, k13, (b13.cell (p := ⟨g, 5, none⟩) hP12.own.row.lt).trans y5⟩)
          have S14 := Lib.hid (show W14.cell? ⟨w.heap.size, 0, none⟩ = some (.slice (some ⟨g, 0, none⟩) n c7) ∧ Blk W14 (w.heap.size + 1) 32 (itL id A11 vn c11 tags) ∧ W14.cell? ⟨g, 5, none⟩ = some (.int .i64 (hd : Int)) from ⟨x14, k14, y14⟩)
          have hP14d : PtS w W14.drew (w.heap.size + 1 + 1) B g c7 en tp W' hl' (ns7.set slot ⟨id, ⟨A11, vn, c11, vxs⟩, tags, level, some ⟨w12.drew.heap.size, 0, none⟩, level.toNat + 1, level.toNat + 1, List.replicate (level.toNat + 1) ⟨none, 0, 0, []⟩, (hd : Int), 0⟩) := hP14.more (below_drewN (Below.refl _ W14) 1)
          obtain ⟨p1, p2, hP16⟩ := hP14d.prev (i := hd) (v := (slot : Int)) (by rw [hn2]; exact hhN) (wf_i64 (by omega) (by omega))
          have SN16 : (Instr.storeAt 3 (.pointer (some ⟨g, 0 + hd * 7 + 6, none⟩)) (.int .i64 (slot : Int))).run Try.prog W14.drew = .ok () (W14.drew.setCell ⟨g, hd * 7 + 6, none⟩ (.int .i64 (slot : Int))) := by
            rw [Nat.zero_add]
            simp [go_sem, p1, p2]
          have S15 := Lib.hid (show W14.drew.cell? ⟨w.heap.size, 0, none⟩ = some (.slice (some ⟨g, 0, none⟩) n c7) ∧ W14.drew.cell? ⟨g, 5, none⟩ = some (.int .i64 (hd : Int)) from ⟨x14, y14⟩)
          obtain ⟨W16, hW16⟩ : ∃ x, W14.drew.setCell ⟨g, hd * 7 + 6, none⟩ (.int .i64 (slot : Int)) = x := ⟨_, rfl⟩
          rw [hW16] at SN16 hP16
          have hn3 : ((ns7.set slot ⟨id, ⟨A11, vn, c11, vxs⟩, tags, level, some ⟨w12.drew.heap.size, 0, none⟩, level.toNat + 1, level.toNat + 1, List.replicate (level.toNat + 1) ⟨none, 0, 0, []⟩, (hd : Int), 0⟩).set hd { nAt (ns7.set slot ⟨id, ⟨A11, vn, c11, vxs⟩, tags, level, some ⟨w12.drew.heap.size, 0, none⟩, level.toNat + 1, level.toNat + 1, List.replicate (level.toNat + 1) ⟨none, 0, 0, []⟩, (hd : Int), 0⟩) hd with prev := (slot : Int) }).length = n := by rw [List.length_set, hn2]
          have x16 : W16.cell? ⟨w.heap.size, 0, none⟩ = some (.slice (some ⟨g, 0, none⟩) n c7) := by rw [← hn3]; exact hP16.pl.cell 0
          have y16 : W16.cell? ⟨g, 5, none⟩ = some (.int .i64 (hd : Int)) := by
            rw [← hW16]
            rw [World.cell?_setCell_other _ _ _ _ (by intro e; injection e with _ e; omega)]
            exact y14
          have S16 := Lib.hid (show W16.cell? ⟨w.heap.size, 0, none⟩ = some (.slice (some ⟨g, 0, none⟩) n c7) ∧ W16.cell? ⟨g, 5, none⟩ = some (.int .i64 (hd : Int)) from ⟨x16, y16⟩)
          obtain ⟨p3, p4, hP17⟩ := hP16.next (i := 0) (v := (slot : Int)) (by rw [hn3]; omega) (wf_i64 (by omega) (by omega))
          rw [Nat.zero_mul, Nat.zero_add] at p3 p4 hP17
          have hFE : Eqv (putSt ns slot (putND ns id vn vxs tags level)) (((ns7.set slot ⟨id, ⟨A11, vn, c11, vxs⟩, tags, level, some ⟨w12.drew.heap.size, 0, none⟩, level.toNat + 1, level.toNat + 1, List.replicate (level.toNat + 1) ⟨none, 0, 0, []⟩, (hd : Int), 0⟩).set hd { nAt (ns7.set slot ⟨id, ⟨A11, vn, c11, vxs⟩, tags, level, some ⟨w12.drew.heap.size, 0, none⟩, level.toNat + 1, level.toNat + 1, List.replicate (level.toNat + 1) ⟨none, 0, 0, []⟩, (hd : Int), 0⟩) hd with prev := (slot : Int) }).set 0 { nAt ((ns7.set slot ⟨id, ⟨A11, vn, c11, vxs⟩, tags, level, some ⟨w12.drew.heap.size, 0, none⟩, level.toNat + 1, level.toNat + 1, List.replicate (level.toNat + 1) ⟨none, 0, 0, []⟩, (hd : Int), 0⟩).set hd { nAt (ns7.set slot ⟨id, ⟨A11, vn, c11, vxs⟩, tags, level, some ⟨w12.drew.heap.size, 0, none⟩, level.toNat + 1, level.toNat + 1, List.replicate (level.toNat + 1) ⟨none, 0, 0, []⟩, (hd : Int), 0⟩) hd with prev := (slot : Int) }) 0 with next := (slot : Int) }) := by
            unfold putSt
            rw [hhd, Int.toNat_natCast]
            refine linkN_eqv (HEQ.out.set slot ?_) hd slot
            unfold putND ND.norm IS.norm
            rw [hhd]
          obtain ⟨ns9, hns9⟩ : ∃ x, (((ns7.set slot ⟨id, ⟨A11, vn, c11, vxs⟩, tags, level, some ⟨w12.drew.heap.size, 0, none⟩, level.toNat + 1, level.toNat + 1, List.replicate (level.toNat + 1) ⟨none, 0, 0, []⟩, (hd : Int), 0⟩).set hd { nAt (ns7.set slot ⟨id, ⟨A11, vn, c11, vxs⟩, tags, level, some ⟨w12.drew.heap.size, 0, none⟩, level.toNat + 1, level.toNat + 1, List.replicate (level.toNat + 1) ⟨none, 0, 0, []⟩, (hd : Int), 0⟩) hd with prev := (slot : Int) }).set 0 { nAt ((ns7.set slot ⟨id, ⟨A11, vn, c11, vxs⟩, tags, level, some ⟨w12.drew.heap.size, 0, none⟩, level.toNat + 1, level.toNat + 1, List.replicate (level.toNat + 1) ⟨none, 0, 0, []⟩, (hd : Int), 0⟩).set hd { nAt (ns7.set slot ⟨id, ⟨A11, vn, c11, vxs⟩, tags, level, some ⟨w12.drew.heap.size, 0, none⟩, level.toNat + 1, level.toNat + 1, List.replicate (level.toNat + 1) ⟨none, 0, 0, []⟩, (hd : Int), 0⟩) hd with prev := (slot : Int) }) 0 with next := (slot : Int) }) = x := ⟨_, rfl⟩
          rw [hns9] at hP17 hFE
          have hn9 : ns9.length = n := by rw [← hns9, List.length_set, hn3]
          obtain ⟨W17, hW17⟩ : ∃ x, W16.setCell ⟨g, 5, none⟩ (.int .i64 (slot : Int)) = x := ⟨_, rfl⟩
          rw [hW17] at hP17
          have LP17 := plane_load hP17.pl
          have SR17 := row_store hP17.res (pgL (some ⟨g, 0, none⟩) ns9.length c7 en tp) rfl planeT (by simp [pgL, Value.oneCell'])
          have HFI := Lib.hid (hP17.fin (en := en) (tp := tp) hP17.res)
          rw [hn9] at LP17 SR17 HFI
          obtain ⟨W18, hW18⟩ : ∃ x, W17.setCells (w.heap.size + 1 + 1) 0 (pgL (some ⟨g, 0, none⟩) n c7 en tp).toList = x := ⟨_, rfl⟩
          rw [hW18] at SR17 HFI
          have HFE := Lib.hid hFE
          have HY5 := Lib.hid p3
          have HF5 := Lib.hid p4
          have HW13 := Lib.hid hW13
          have HW16 := Lib.hid hW16
          have HW17 := Lib.hid hW17
          clear hW18 hn9 hns9 hP17 hP16 hP14 hP14d hn3 hn2 x16 y16 p1 p2 p3 p4 x14 y14 k14 k13 hth hW14 hRw hNil b13 x12 y5 k12 hv12 hP12 hq12 hs12 hw12 hdn1 hdn2 hhd hn1p x0 q1 z1 f1 HCV hW13 hW16 hW17 hFE HK2S
          refine wp_region_held_drew (S := fun w' => w'.cell? ⟨w.heap.size, 0, none⟩ = some (.slice (some ⟨g, 0, none⟩) n c7) ∧ Blk w' (w.heap.size + 1) 32 (itL id A11 vn c11 tags) ∧ w'.cell? ⟨g, 5, none⟩ = some (.int .i64 (hd : Int))) (by kernel_rfl) S12.out (fun hH => ?_)
          refine wpAnyH_take (i := 0) (v := .pointer (some ⟨w.heap.size, 0, none⟩)) rfl (by kernel_rfl) (by kernel_rfl) (by kernel_rfl) (fun _ _ _ h => h) (.inl ⟨by rfl, fun _ _ => by kernel_rfl⟩) hH ?_
          (try simp only [List.getElem_toArray, List.getElem_cons_zero, Act.put, List.setIfInBounds_toArray, List.set_cons_zero, List.set_cons_succ])
          refine wpAnyH_take (i := 1) (v := .slice (some ⟨g, 0, none⟩) n c7) rfl (by kernel_rfl) (by kernel_rfl) (by kernel_rfl) (fun _ _ _ h => h) (yieldsIf_loadP (by rfl) _ rfl rfl (fun _ q => load_nodes q.1)) hH ?_
          (try simp only [List.getElem_toArray, List.getElem_cons_zero, List.getElem_cons_succ, Act.put, List.setIfInBounds_toArray, List.set_cons_zero, List.set_cons_succ])
          refine wpAnyH_take (i := 2) (v := .int .i64 (slot : Int)) rfl (by kernel_rfl) (by kernel_rfl) (by kernel_rfl) (fun _ _ _ h => h) (.inl ⟨by rfl, fun _ _ => by kernel_rfl⟩) hH ?_
          (try simp only [List.getElem_toArray, List.getElem_cons_zero, List.getElem_cons_succ, Act.put, List.setIfInBounds_toArray, List.set_cons_zero, List.set_cons_succ])
          refine wpAnyH_take (i := 3) (v := .agg (itL id A11 vn c11 tags)) rfl (by kernel_rfl) (by kernel_rfl) (by kernel_rfl) (fun _ _ _ h => h) (yieldsIf_loadP (by rfl) _ rfl rfl (fun _ q => item_load q.2.1)) hH ?_
          (try simp only [List.getElem_toArray, List.getElem_cons_zero, List.getElem_cons_succ, Act.put, List.setIfInBounds_toArray, List.set_cons_zero, List.set_cons_succ])
          refine wpAnyH_take (i := 4) (v := .int .i64 level) rfl (by kernel_rfl) (by kernel_rfl) (by kernel_rfl) (fun _ _ _ h => h) (.inl ⟨by rfl, fun _ _ => by kernel_rfl⟩) hH ?_
          (try simp only [List.getElem_toArray, List.getElem_cons_zero, List.getElem_cons_succ, Act.put, List.setIfInBounds_toArray, List.set_cons_zero, List.set_cons_succ])
          refine wpAnyH_take (i := 5) (v := .int .i64 level) rfl (by kernel_rfl) (by kernel_rfl) (by kernel_rfl) (fun _ _ _ h => h) (.inl ⟨by rfl, fun _ _ => by kernel_rfl⟩) hH ?_
          (try simp only [List.getElem_toArray, List.getElem_cons_zero, List.getElem_cons_succ, Act.put, List.setIfInBounds_toArray, List.set_cons_zero, List.set_cons_succ])
          refine wpAnyH_take (i := 6) (v := .int .i64 (((level.toNat + 1) : Nat) : Int)) rfl (by kernel_rfl) (by kernel_rfl) (by kernel_rfl) (fun _ _ _ h => h) (yieldsIf_addR (by rfl) _ _ rfl rfl rfl hLv) hH ?_
          (try simp only [List.getElem_toArray, List.getElem_cons_zero, List.getElem_cons_succ, Act.put, List.setIfInBounds_toArray, List.set_cons_zero, List.set_cons_succ])
          refine wpAnyH_take (i := 8) (v := .pointer (some ⟨g, 0, none⟩)) rfl (by kernel_rfl) (by kernel_rfl) (by kernel_rfl) (fun _ _ _ h => h) (.inl ⟨by rfl, fun _ _ => by kernel_rfl⟩) hH ?_
          (try simp only [List.getElem_toArray, List.getElem_cons_zero, List.getElem_cons_succ, Act.put, List.setIfInBounds_toArray, List.set_cons_zero, List.set_cons_succ])
          refine wpAnyH_take (i := 9) (v := .pointer (some ⟨g, 0, none⟩)) rfl (by kernel_rfl) (by kernel_rfl) (by kernel_rfl) (fun _ _ _ h => h) (.inl ⟨by rfl, fun _ _ => by kernel_rfl⟩) hH ?_
          (try simp only [List.getElem_toArray, List.getElem_cons_zero, List.getElem_cons_succ, Act.put, List.setIfInBounds_toArray, List.set_cons_zero, List.set_cons_succ])
          refine wpAnyH_take (i := 10) (v := .pointer (some ⟨g, 5, none⟩)) rfl (by kernel_rfl) (by kernel_rfl) (by kernel_rfl) (fun _ _ _ h => h) (.inl ⟨by rfl, fun _ _ => by kernel_rfl⟩) hH ?_
          (try simp only [List.getElem_toArray, List.getElem_cons_zero, List.getElem_cons_succ, Act.put, List.setIfInBounds_toArray, List.set_cons_zero, List.set_cons_succ])
          refine wpAnyH_take (i := 11) (v := .int .i64 (hd : Int)) rfl (by kernel_rfl) (by kernel_rfl) (by kernel_rfl) (fun _ _ _ h => h) (yieldsIf_loadP (by rfl) _ rfl rfl (fun _ q => load_i64 q.2.2)) hH ?_
          (try simp only [List.getElem_toArray, List.getElem_cons_zero, List.getElem_cons_succ, Act.put, List.setIfInBounds_toArray, List.set_cons_zero, List.set_cons_succ])
          refine wpAnyH_make 7 (.slice (some ⟨w12.drew.heap.size, 0, none⟩) (level.toNat + 1) (level.toNat + 1)) (by kernel_rfl) (by rfl) (by kernel_rfl) (exec_make (by rfl) (by rfl) (by rfl) MK13) S13.out ?_
          (try simp only [List.getElem_toArray, List.getElem_cons_zero, List.getElem_cons_succ, Act.put, List.setIfInBounds_toArray, List.set_cons_zero, List.set_cons_succ])
          refine wpAnyH_take (i := 12) (v := .agg #[.int .u64 id, .slice A11 vn c11, .int .u64 tags, .int .i64 level, .slice (some ⟨w12.drew.heap.size, 0, none⟩) (level.toNat + 1) (level.toNat + 1), .int .i64 (hd : Int), .int .i64 0]) rfl (by kernel_rfl) (by kernel_rfl) (by kernel_rfl) (fun _ _ _ h => h) (.inl ⟨by rfl, fun _ _ => by kernel_rfl⟩) S13.out ?_
          (try simp only [List.getElem_toArray, List.getElem_cons_zero, List.getElem_cons_succ, Act.put, List.setIfInBounds_toArray, List.set_cons_zero, List.set_cons_succ])
          refine wpAnyH_take (i := 13) (v := .pointer (some ⟨g, 0 + slot * 7, none⟩)) rfl (by kernel_rfl) (by kernel_rfl) (by kernel_rfl) (fun _ _ _ h => h) (yieldsIf_index Try.underlying25 sz_node (by rfl) _ _ rfl rfl rfl hsN) S13.out ?_
          (try simp only [List.getElem_toArray, List.getElem_cons_zero, List.getElem_cons_succ, Act.put, List.setIfInBounds_toArray, List.set_cons_zero, List.set_cons_succ])
          refine wpAnyH_store 14 _ _ _ (by kernel_rfl) (by rfl) (by kernel_rfl) (by rfl) (by rfl) (by rfl) (SN14) (S14.out) ?_
          refine wpAnyH_done (by kernel_rfl) ?_ _

          clear hH
          go_upto_region 23 with fail
          refine wp_region_held_drew (S := fun w' => w'.cell? ⟨w.heap.size, 0, none⟩ = some (.slice (some ⟨g, 0, none⟩) n c7) ∧ w'.cell? ⟨g, 5, none⟩ = some (.int .i64 (hd : Int))) (by kernel_rfl) S15.out (fun hH => ?_)
          refine wpAnyH_take (i := 0) (v := .pointer (some ⟨w.heap.size, 0, none⟩)) rfl (by kernel_rfl) (by kernel_rfl) (by kernel_rfl) (fun _ _ _ h => h) (.inl ⟨by rfl, fun _ _ => by kernel_rfl⟩) hH ?_
          (try simp only [List.getElem_toArray, List.getElem_cons_zero, Act.put, List.setIfInBounds_toArray])
          refine wpAnyH_take (i := 1) (v := .slice (some ⟨g, 0, none⟩) n c7) rfl (by kernel_rfl) (by kernel_rfl) (by kernel_rfl) (fun _ _ _ h => h) (yieldsIf_loadP (by rfl) _ rfl rfl (fun _ q => load_nodes q.1)) hH ?_
          (try simp only [List.getElem_toArray, List.getElem_cons_zero, List.getElem_cons_succ, Act.put, List.setIfInBounds_toArray, List.set_cons_zero, List.set_cons_succ])
          refine wpAnyH_take (i := 2) (v := .pointer (some ⟨g, 0, none⟩)) rfl (by kernel_rfl) (by kernel_rfl) (by kernel_rfl) (fun _ _ _ h => h) (.inl ⟨by rfl, fun _ _ => by kernel_rfl⟩) hH ?_
          (try simp only [List.getElem_toArray, List.getElem_cons_zero, List.getElem_cons_succ, Act.put, List.setIfInBounds_toArray, List.set_cons_zero, List.set_cons_succ])
          refine wpAnyH_take (i := 3) (v := .pointer (some ⟨g, 0, none⟩)) rfl (by kernel_rfl) (by kernel_rfl) (by kernel_rfl) (fun _ _ _ h => h) (.inl ⟨by rfl, fun _ _ => by kernel_rfl⟩) hH ?_
          (try simp only [List.getElem_toArray, List.getElem_cons_zero, List.getElem_cons_succ, Act.put, List.setIfInBounds_toArray, List.set_cons_zero, List.set_cons_succ])
          refine wpAnyH_take (i := 4) (v := .pointer (some ⟨g, 5, none⟩)) rfl (by kernel_rfl) (by kernel_rfl) (by kernel_rfl) (fun _ _ _ h => h) (.inl ⟨by rfl, fun _ _ => by kernel_rfl⟩) hH ?_
          (try simp only [List.getElem_toArray, List.getElem_cons_zero, List.getElem_cons_succ, Act.put, List.setIfInBounds_toArray, List.set_cons_zero, List.set_cons_succ])
          refine wpAnyH_take (i := 5) (v := .int .i64 (hd : Int)) rfl (by kernel_rfl) (by kernel_rfl) (by kernel_rfl) (fun _ _ _ h => h) (yieldsIf_loadP (by rfl) _ rfl rfl (fun _ q => load_i64 q.2)) hH ?_
          (try simp only [List.getElem_toArray, List.getElem_cons_zero, List.getElem_cons_succ, Act.put, List.setIfInBounds_toArray, List.set_cons_zero, List.set_cons_succ])
          refine wpAnyH_take (i := 6) (v := .int .i64 (slot : Int)) rfl (by kernel_rfl) (by kernel_rfl) (by kernel_rfl) (fun _ _ _ h => h) (.inl ⟨by rfl, fun _ _ => by kernel_rfl⟩) hH ?_
          (try simp only [List.getElem_toArray, List.getElem_cons_zero, List.getElem_cons_succ, Act.put, List.setIfInBounds_toArray, List.set_cons_zero, List.set_cons_succ])
          refine wpAnyH_take (i := 7) (v := .pointer (some ⟨g, 0 + hd * 7, none⟩)) rfl (by kernel_rfl) (by kernel_rfl) (by kernel_rfl) (fun _ _ _ h => h) (yieldsIf_index Try.underlying25 sz_node (by rfl) _ _ rfl rfl rfl hhN) hH ?_
          (try simp only [List.getElem_toArray, List.getElem_cons_zero, List.getElem_cons_succ, Act.put, List.setIfInBounds_toArray, List.set_cons_zero, List.set_cons_succ])
          refine wpAnyH_take (i := 8) (v := .pointer (some ⟨g, 0 + hd * 7 + 6, none⟩)) rfl (by kernel_rfl) (by kernel_rfl) (by kernel_rfl) (fun _ _ _ h => h) (.inl ⟨by rfl, fun _ _ => by kernel_rfl⟩) hH ?_
          (try simp only [List.getElem_toArray, List.getElem_cons_zero, List.getElem_cons_succ, Act.put, List.setIfInBounds_toArray, List.set_cons_zero, List.set_cons_succ])
          refine wpAnyH_store 9 _ _ _ (by kernel_rfl) (by rfl) (by kernel_rfl) (by rfl) (by rfl) (by rfl) (SN16) (S16.out) ?_
          refine wpAnyH_done (by kernel_rfl) ?_ _

          clear hH
          obtain ⟨u5, hu5⟩ : ∃ u, W16.cell? ⟨g, 5, none⟩ = some u := ⟨_, HY5.out⟩
          have hf5 := HF5.out
          go_upto_region 25 with fail
          simp only [HW17.out]
          clear hu5 hf5
          unfold pgL at LP17 SR17
          go_wp2_with (first | ((with_reducible refine wpList_loadE (op := ⟨some 101, _, _, _, _, _⟩) LP17 ?leX ?leG ?leO ?leE ?_); (case leO => exact rfl); (case leE => exact rfl); (case leG => exact rfl)) | refine wpList_storeE SR17 _ _ rfl rfl rfl rfl ?_)
          refine bodyPost_ret (v := .tuple #[.agg (pgL (some ⟨g, 0, none⟩) n c7 en tp), .int .i64 (slot : Int), .int .i64 0]) ?_ rfl (.inr ⟨HY.out, g, n, c7, ns9, by rw [HSL.out], HFI.out.2.1, by rw [HSL.out]; exact HFE.out, HFI.out.2.2⟩)
          exact results_row12 Try.results7 _ rfl HFI.out.1 Try.underlying27 rfl planeT
end Go.Proofs.Ytckclflbcgblaaa
