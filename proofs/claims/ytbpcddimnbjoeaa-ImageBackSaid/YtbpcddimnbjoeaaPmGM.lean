/- Planes of the call's own; New, Put. -/
import Derived.Test.YtbpcddimnbjoeaaPmEF
import Derived.Laws.OwnMore
import Derived.Deep.AppendLies
namespace Go.Proofs.Ytbpcddimnbjoeaa
open Go.RowKit Go.Maps Go.ChangeMaps Go.MapKept
/-- A node but for its row of lists, in blocks of S. -/
def NdS (w : World) (S : Nat → Prop) (d : ND) : Prop := d.vec.AtS w S .i32 ∧ (d.LA = none → d.ln = 0 ∧ d.lc = 0) ∧ d.ln ≤ 1048576 ∧ d.ls.length = d.ln ∧ (∀ l ∈ d.ls, l.AtS w S .i64) ∧
  ((Lit.int .u64 d.id).wf = true ∧ (Lit.int .i64 d.level).wf = true ∧ (Lit.int .i64 d.next).wf = true ∧ (Lit.int .i64 d.prev).wf = true ∧ ∀ l ∈ d.ls, l.n ≤ l.c)
theorem NdS.mono {w : World} {S S' : Nat → Prop} {d : ND} (h : NdS w S d) (hS : ∀ b, S b → S' b) : NdS w S' d := ⟨h.1.mono hS, h.2.1, h.2.2.1, h.2.2.2.1, fun l hl => (h.2.2.2.2.1 l hl).mono hS, h.2.2.2.2.2⟩
theorem NdS.tch {w w' : World} {S W : Nat → Prop} {d : ND} (h : NdS w S d) (hT : Tch W w w') (hS : ∀ b, S b → b < w.heap.size ∧ ¬ W b) : NdS w' S d := ⟨h.1.tch hT hS, h.2.1, h.2.2.1, h.2.2.2.1, fun l hl => (h.2.2.2.2.1 l hl).tch hT hS, h.2.2.2.2.2⟩
/-- A plane whose nodes lie in block g, of the call's own; of the first m nodes the rows of lists are of the call's own too. W: what may be written. -/
structure OwnP (w : World) (B g c m : Nat) (W : Nat → Prop) (hl : Nat → Nat) (ns : List ND) : Prop where
  row : Rw w g 42 (c * 7) (flat ns)
  cap : ns.length ≤ c ∧ c ≤ maxLen
  small : ns.length ≤ 1048576
  wg : W g
  wB : ∀ k, W k → k < w.heap.size
  gB : B ≤ g
  nd : ∀ (i : Nat) (d : ND), ns[i]? = some d → NdS w (fun k => k < w.heap.size ∧ ¬ W k) d
  own : ∀ (i : Nat) (d : ND), ns[i]? = some d → i < m → 0 < d.ln → d.LA = some ⟨hl i, 0, none⟩ ∧ W (hl i) ∧ (hl i ≠ g ∧ B ≤ hl i) ∧ d.ln ≤ d.lc ∧ Rw w (hl i) 43 (d.lc * 1) (d.ls.map IS.v)
  old : ∀ (i : Nat) (d : ND), ns[i]? = some d → m ≤ i → RdS w (fun k => k < w.heap.size ∧ ¬ W k) d.LA d.ln (d.ls.map IS.v)
  inj : ∀ (i j : Nat) (d d' : ND), ns[i]? = some d → ns[j]? = some d' → i < m → j < m → 0 < d.ln → 0 < d'.ln → hl i = hl j → i = j
theorem rs_of_rd {w : World} {S : Nat → Prop} {B : Nat} {A : Option Addr} {n : Nat} {ls : List IS} (h : RdS w S A n (ls.map IS.v)) (hS : ∀ b, S b → b < B) : Rs w B A n 1 (ls.map fun l => [l.v]) := by
  refine ⟨by simpa using h.1, by simp, fun h0 => ?_⟩
  obtain ⟨b, o, e, hb, hc⟩ := h.2 h0
  refine ⟨b, o, e, hS b hb, fun i c hi j v hv => ?_⟩
  rw [List.getElem?_map, Option.map_eq_some_iff] at hi
  obtain ⟨l, hl, rfl⟩ := hi
  cases j with
  | zero =>
    rw [Nat.mul_one, Nat.add_zero]
    injection hv with hv
    subst hv
    exact hc i _ (by rw [List.getElem?_map, hl]; rfl)
  | succ j => cases hv
theorem OwnP.node {w : World} {B g c m : Nat} {W : Nat → Prop} {hl : Nat → Nat} {ns : List ND} (h : OwnP w B g c m W hl ns) {i : Nat} {d : ND} (hd : ns[i]? = some d) : d.At w w.heap.size := by
  have hn := h.nd i d hd
  refine ⟨hn.1.at_ fun b hb => hb.1, hn.2.1, hn.2.2.1, ?_, fun l hl => (hn.2.2.2.2.1 l hl).at_ fun b hb => hb.1, hn.2.2.2.2.2⟩
  by_cases hm : i < m
  · refine ⟨by simpa using hn.2.2.2.1, by simp, fun h0 => ?_⟩
    obtain ⟨e, hW, _, _, hr⟩ := h.own i d hd hm h0
    refine ⟨hl i, 0, e, hr.lt, fun j c hj k v hv => ?_⟩
    rw [List.getElem?_map, Option.map_eq_some_iff] at hj
    obtain ⟨l, hlj, rfl⟩ := hj
    cases k with
    | zero =>
      injection hv with hv
      subst hv
      rw [Nat.zero_add, Nat.mul_one, Nat.add_zero]
      exact hr.cell (by rw [List.getElem?_map, hlj]; rfl)
    | succ k => cases hv
  · exact rs_of_rd (h.old i d hd (by omega)) fun b hb => hb.1
theorem OwnP.pg {w : World} {B g c m : Nat} {W : Nat → Prop} {hl : Nat → Nat} {ns : List ND} (h : OwnP w B g c m W hl ns) : PgAt w w.heap.size (some ⟨g, 0, none⟩) ns.length c ns := by
  refine ⟨fun e => (by cases e), h.small, ⟨by simp, cells7 ns, fun _ => ⟨g, 0, rfl, h.row.lt, fun i c hi j v hv => ?_⟩⟩, fun d hd => ?_⟩
  · rw [List.getElem?_map, Option.map_eq_some_iff] at hi
    obtain ⟨d, hd, rfl⟩ := hi
    rw [Nat.zero_add]
    have hj : j < 7 := (List.getElem?_eq_some_iff.1 hv).1
    exact h.row.cell (by rw [flat_get2 hd j hj]; exact hv)
  · obtain ⟨i, hi, rfl⟩ := List.mem_iff_getElem.1 hd
    exact h.node (List.getElem?_eq_getElem hi)
theorem OwnP.below {w w' : World} {B g c m : Nat} {W : Nat → Prop} {hl : Nat → Nat} {ns : List ND} (h : OwnP w B g c m W hl ns) (hb : Below w.heap.size w w') : OwnP w' B g c m W hl ns := by
  have hT : Tch (fun _ => False) w w' := Tch.of_below hb
  have hsz := hb.size
  refine ⟨h.row.at_ (hb.block _ h.row.lt), h.cap, h.small, h.wg, fun k hk => Nat.lt_of_lt_of_le (h.wB k hk) hsz, h.gB, fun i d hd => ?_, fun i d hd hm h0 => ?_, fun i d hd hm => ?_, h.inj⟩
  · exact ((h.nd i d hd).tch hT fun b hb => ⟨hb.1, fun h => h⟩).mono fun b hb => ⟨Nat.lt_of_lt_of_le hb.1 hsz, hb.2⟩
  · obtain ⟨e, hW, hg, hc, hr⟩ := h.own i d hd hm h0
    exact ⟨e, hW, hg, hc, hr.at_ (hb.block _ hr.lt)⟩
  · exact ((h.old i d hd hm).tch hT fun b hb => ⟨hb.1, fun h => h⟩).mono fun b hb => ⟨Nat.lt_of_lt_of_le hb.1 hsz, hb.2⟩
/-- At the start. -/
theorem OwnP.start {w w' : World} {A A' : Option Addr} {n c c' B B0 : Nat} {ns : List ND} (hg : PgAt w B0 A n c ns) (h00 : B0 ≤ w.heap.size) (hn : 0 < n) (hB : w.heap.size ≤ B) (ho : w'.ownsRow B 42 7 (.slice A' n c') n (flat ns)) (hb : Below w.heap.size w w') :
    ∃ g, A' = some ⟨g, 0, none⟩ ∧ OwnP w' B g c' 0 (fun k => B0 ≤ k ∧ k < w'.heap.size) (fun _ => 0) ns := by
  obtain ⟨g, e, hBg, hc, hm, hr⟩ := Rw.of_own ho hn
  have hl := hg.len
  have hsz := hb.size
  have hT : Tch (fun _ => False) w w' := Tch.of_below hb
  have hS : ∀ b, b < B0 → b < w'.heap.size ∧ ¬ (B0 ≤ b ∧ b < w'.heap.size) := fun b hb => ⟨by omega, by omega⟩
  refine ⟨g, e, hr, ⟨by omega, hm⟩, by have := hg.2.1; omega, ⟨by omega, hr.lt⟩, fun k hk => hk.2, hBg, fun i d hd => ?_, fun i d hd h0 => absurd h0 (by omega), fun i d hd _ => ?_, fun i j d d' _ _ h0 => absurd h0 (by omega)⟩
  · have hda := hg.2.2.2 d (List.mem_of_getElem? hd)
    have hn2 : NdS w (· < B0) d := ⟨hda.1.s, hda.2.1, hda.2.2.1, hda.len, fun l hl => (hda.2.2.2.2.1 l hl).s, hda.2.2.2.2.2⟩
    exact (hn2.tch hT fun b hb => ⟨by omega, fun h => h⟩).mono hS
  · have hda := hg.2.2.2 d (List.mem_of_getElem? hd)
    have hrd : RdS w (· < B0) d.LA d.ln (d.ls.map IS.v) := by
      refine ⟨by simpa using hda.2.2.2.1.1, fun h0 => ?_⟩
      obtain ⟨b, o, e, hb, hcc⟩ := hda.2.2.2.1.2.2 h0
      refine ⟨b, o, e, hb, fun j u hu => ?_⟩
      rw [List.getElem?_map, Option.map_eq_some_iff] at hu
      obtain ⟨l, hlj, rfl⟩ := hu
      have := hcc j [l.v] (by rw [List.getElem?_map, hlj]; rfl) 0 l.v rfl
      rwa [Nat.mul_one, Nat.add_zero] at this
    exact (hrd.tch hT fun b hb => ⟨by omega, fun h => h⟩).mono hS
/-- A block that is not the nodes' nor a row of lists is written. -/
theorem OwnP.off {w w' : World} {B g c m x : Nat} {W : Nat → Prop} {hl : Nat → Nat} {ns : List ND} (h : OwnP w B g c m W hl ns) (hT : Tch (fun k => k = x) w w') (hw : W x) (hx : x < B) : OwnP w' B g c m W hl ns := by
  have hsz := hT.size
  have hS : ∀ b, b < w.heap.size ∧ ¬ W b → b < w.heap.size ∧ ¬ b = x := fun b hb => ⟨hb.1, fun e => hb.2 (e ▸ hw)⟩
  have hm : ∀ b, b < w.heap.size ∧ ¬ W b → b < w'.heap.size ∧ ¬ W b := fun b hb => ⟨by omega, hb.2⟩
  have hgB := h.gB
  refine ⟨h.row.at_ (hT.block _ h.row.lt (by omega)), h.cap, h.small, h.wg, fun k hk => Nat.lt_of_lt_of_le (h.wB k hk) hsz, h.gB, fun i d hd => ?_, fun i d hd hm h0 => ?_, fun i d hd hj => ?_, h.inj⟩
  · exact ((h.nd i d hd).tch hT hS).mono hm
  · obtain ⟨e, hW, hg, hc, hr⟩ := h.own i d hd hm h0
    exact ⟨e, hW, hg, hc, hr.at_ (hT.block _ hr.lt (by omega))⟩
  · exact ((h.old i d hd hj).tch hT hS).mono hm
/-- A node is changed, and its row of lists is not. -/
theorem OwnP.same {w w' : World} {B g c m : Nat} {W : Nat → Prop} {hl : Nat → Nat} {ns : List ND} (h : OwnP w B g c m W hl ns) (hT : Tch (fun k => k = g) w w') {i : Nat} {d d' : ND} (hd : ns[i]? = some d)
    (hr : Rw w' g 42 (c * 7) (flat (ns.set i d'))) (hL : d'.LA = d.LA ∧ d'.ln = d.ln ∧ d'.lc = d.lc ∧ d'.ls = d.ls)
    (hn : NdS w' (fun k => k < w'.heap.size ∧ ((k < w.heap.size ∧ ¬ W k) ∨ w.heap.size ≤ k)) d') : OwnP w' B g c m W hl (ns.set i d') := by
  have hsz := hT.size
  have hS : ∀ b, b < w.heap.size ∧ ¬ W b → b < w.heap.size ∧ ¬ b = g := fun b hb => ⟨hb.1, fun e => hb.2 (e ▸ h.wg)⟩
  have hm : ∀ b, b < w.heap.size ∧ ¬ W b → b < w'.heap.size ∧ ¬ W b := fun b hb => ⟨by omega, hb.2⟩
  have key : ∀ (j : Nat) (e : ND), (ns.set i d')[j]? = some e → ∃ e0, ns[j]? = some e0 ∧ e.LA = e0.LA ∧ e.ln = e0.ln ∧ e.lc = e0.lc ∧ e.ls = e0.ls := by
    intro j e he
    by_cases hj : i = j
    · subst hj
      rw [List.getElem?_set_self (List.getElem?_eq_some_iff.1 hd).1] at he
      injection he with he
      subst he
      exact ⟨d, hd, hL.1, hL.2.1, hL.2.2.1, hL.2.2.2⟩
    · rw [List.getElem?_set_ne hj] at he
      exact ⟨e, he, rfl, rfl, rfl, rfl⟩
  refine ⟨hr, by rw [List.length_set]; exact h.cap, by rw [List.length_set]; exact h.small, h.wg, fun k hk => Nat.lt_of_lt_of_le (h.wB k hk) hsz, h.gB, fun j e he => ?_, fun j e he hj h0 => ?_, fun j e he hj => ?_, fun j k e e' he he' hj hk h0 h0' => ?_⟩
  · by_cases hj : i = j
    · subst hj
      rw [List.getElem?_set_self (List.getElem?_eq_some_iff.1 hd).1] at he
      injection he with he
      subst he
      refine hn.mono fun b hb => ⟨hb.1, ?_⟩
      rcases hb.2 with h1 | h1
      · exact h1.2
      · intro hw; have := h.wB b hw; omega
    · rw [List.getElem?_set_ne hj] at he
      exact ((h.nd j e he).tch hT hS).mono hm
  · obtain ⟨e0, he0, e1, e2, e3, e4⟩ := key j e he
    rw [e2] at h0
    obtain ⟨a1, a2, a3, a4, a5⟩ := h.own j e0 he0 hj h0
    rw [e1, e2, e3, e4]
    exact ⟨a1, a2, a3, a4, a5.at_ (hT.block _ a5.lt a3.1)⟩
  · obtain ⟨e0, he0, e1, e2, e3, e4⟩ := key j e he
    rw [e1, e2, e4]
    exact ((h.old j e0 he0 hj).tch hT hS).mono hm
  · obtain ⟨f, hf, _, f2, _⟩ := key j e he
    obtain ⟨f', hf', _, f2', _⟩ := key k e' he'
    exact h.inj j k f f' hf hf' hj hk (by omega) (by omega)
/-- A node is changed, with a new row of lists. -/
theorem OwnP.step {w w' : World} {B g c m m' : Nat} {W : Nat → Prop} {hl : Nat → Nat} {ns : List ND} (h : OwnP w B g c m W hl ns) (hT : Tch (fun k => k = g) w w') {i : Nat} {d' : ND} (hi : i < ns.length) (hm : m' = m ∨ m' = m + 1 ∧ i = m) (him : i < m')
    (hB : B ≤ w.heap.size) (hr : Rw w' g 42 (c * 7) (flat (ns.set i d')))
    (hn : NdS w' (fun k => k < w'.heap.size ∧ ((k < w.heap.size ∧ ¬ W k) ∨ w.heap.size ≤ k ∧ d'.LA ≠ some ⟨k, 0, none⟩)) d')
    (ho : 0 < d'.ln → ∃ x, d'.LA = some ⟨x, 0, none⟩ ∧ w.heap.size ≤ x ∧ d'.ln ≤ d'.lc ∧ Rw w' x 43 (d'.lc * 1) (d'.ls.map IS.v)) :
    ∃ W' hl', OwnP w' B g c m' W' hl' (ns.set i d') ∧ ∀ k, W k → W' k := by
  have hsz := hT.size
  have hgl := h.row.lt
  have hS : ∀ b, b < w.heap.size ∧ ¬ W b → b < w.heap.size ∧ ¬ b = g := fun b hb => ⟨hb.1, fun e => hb.2 (e ▸ h.wg)⟩
  obtain ⟨x, hx, hxl⟩ : ∃ x, (0 < d'.ln → d'.LA = some ⟨x, 0, none⟩ ∧ w.heap.size ≤ x ∧ d'.ln ≤ d'.lc ∧ Rw w' x 43 (d'.lc * 1) (d'.ls.map IS.v)) ∧ (¬ 0 < d'.ln → x = g) := by
    by_cases h0 : 0 < d'.ln
    · obtain ⟨x, hx⟩ := ho h0
      exact ⟨x, fun _ => hx, fun h => absurd h0 h⟩
    · exact ⟨g, fun h => absurd h h0, fun _ => rfl⟩
  clear ho
  have hxw : ∀ k, k < w.heap.size → ¬ W k → ¬ (W k ∨ k = x) := by
    rintro k hk hw (h1 | rfl)
    · exact hw h1
    · by_cases h0 : 0 < d'.ln
      · have := (hx h0).2.1; omega
      · exact hw (by rw [hxl h0]; exact h.wg)
  have hm2 : ∀ b, b < w.heap.size ∧ ¬ W b → b < w'.heap.size ∧ ¬ (W b ∨ b = x) := fun b hb => ⟨by omega, hxw b hb.1 hb.2⟩
  refine ⟨fun k => W k ∨ k = x, fun j => if j = i then x else hl j, ⟨hr, by rw [List.length_set]; exact h.cap, by rw [List.length_set]; exact h.small, .inl h.wg, ?_, h.gB, fun j e he => ?_, fun j e he hj h0 => ?_, fun j e he hj => ?_, fun j k e e' he he' hj hk h0 h0' hh => ?_⟩, fun k hk => .inl hk⟩
  · rintro k (hk | rfl)
    · exact Nat.lt_of_lt_of_le (h.wB k hk) hsz
    · by_cases h0 : 0 < d'.ln
      · exact (hx h0).2.2.2.lt
      · rw [hxl h0]; omega
  · by_cases hj : i = j
    · subst hj
      rw [List.getElem?_set_self hi] at he
      injection he with he
      subst he
      refine hn.mono fun b hb => ⟨hb.1, ?_⟩
      rcases hb.2 with h1 | h1
      · exact hxw b h1.1 h1.2
      · rintro (hw | rfl)
        · have := h.wB b hw; omega
        · by_cases h0 : 0 < d'.ln
          · exact h1.2 (hx h0).1
          · have := hxl h0; omega
    · rw [List.getElem?_set_ne hj] at he
      exact ((h.nd j e he).tch hT hS).mono hm2
  · by_cases hj2 : i = j
    · subst hj2
      rw [List.getElem?_set_self hi] at he
      injection he with he
      subst he
      obtain ⟨a1, a2, a3, a4⟩ := hx h0
      simp only [if_true]
      exact ⟨a1, .inr trivial, ⟨by omega, by omega⟩, a3, a4⟩
    · rw [List.getElem?_set_ne hj2] at he
      obtain ⟨a1, a2, a3, a4, a5⟩ := h.own j e he (by omega) h0
      simp only [if_neg (Ne.symm hj2)]
      exact ⟨a1, .inl a2, a3, a4, a5.at_ (hT.block _ a5.lt a3.1)⟩
  · have hj2 : i ≠ j := by omega
    rw [List.getElem?_set_ne hj2] at he
    exact ((h.old j e he (by omega)).tch hT hS).mono hm2
  · by_cases hji : i = j
    · by_cases hki : i = k
      · omega
      · exfalso
        subst hji
        rw [List.getElem?_set_ne hki] at he'
        rw [List.getElem?_set_self hi] at he
        injection he with he
        subst he
        simp only [if_true, if_neg (Ne.symm hki)] at hh
        have h1 := (hx h0).2.1
        have h2 := (h.own k e' he' (by omega) h0').2.2.2.2.lt
        omega
    · by_cases hki : i = k
      · exfalso
        subst hki
        rw [List.getElem?_set_ne hji] at he
        rw [List.getElem?_set_self hi] at he'
        injection he' with he'
        subst he'
        simp only [if_true, if_neg (Ne.symm hji)] at hh
        have h1 := (hx h0').2.1
        have h2 := (h.own j e he (by omega) h0).2.2.2.2.lt
        omega
      · rw [List.getElem?_set_ne hji] at he
        rw [List.getElem?_set_ne hki] at he'
        simp only [if_neg (Ne.symm hji), if_neg (Ne.symm hki)] at hh
        exact h.inj j k e e' he he' (by omega) (by omega) h0 h0' hh
/-- A node's list is another one. -/
theorem OwnP.setList {w w' : World} {B g c m : Nat} {W : Nat → Prop} {hl : Nat → Nat} {ns : List ND} (h : OwnP w B g c m W hl ns) (hb : Below w.heap.size w w') {i k : Nat} {d : ND} (hd : ns[i]? = some d) (hm : i < m) (hk : k < d.ln)
    (l : IS) (hal : l.AtS w' (fun k => w.heap.size ≤ k ∧ k < w'.heap.size) .i64) (hcap : l.n ≤ l.c) : OwnP (w'.setCell ⟨hl i, k, none⟩ l.v) B g c m W hl (ns.set i { d with ls := d.ls.set k l }) := by
  have h1 := h.below hb
  have hsz := hb.size
  have hil := (List.getElem?_eq_some_iff.1 hd).1
  obtain ⟨b1, b2, b3, b4, b5⟩ := h1.own i d hd hm (by omega)
  have hT : Tch (fun q => q = hl i) w' (w'.setCell ⟨hl i, k, none⟩ l.v) := Tch.setCell (S := fun q => q = hl i) (Tch.refl _ _) rfl _ _
  have hS : ∀ b, b < w'.heap.size ∧ ¬ W b → b < w'.heap.size ∧ ¬ b = hl i := fun b hb => ⟨hb.1, fun e => hb.2 (e ▸ b2)⟩
  have hsz2 : (w'.setCell ⟨hl i, k, none⟩ l.v).heap.size = w'.heap.size := by simp [World.setCell]
  have hfl : flat (ns.set i { d with ls := d.ls.set k l }) = flat ns := by
    unfold flat
    congr 1
    rw [List.map_set]
    refine List.ext_getElem? fun q => ?_
    by_cases hq : i = q
    · subst hq
      rw [List.getElem?_set_self (by rw [List.length_map]; exact hil), List.getElem?_map, hd]; rfl
    · rw [List.getElem?_set_ne hq]
  have key : ∀ (j : Nat) (e : ND), (ns.set i { d with ls := d.ls.set k l })[j]? = some e → ∃ e0, ns[j]? = some e0 ∧ e.LA = e0.LA ∧ e.ln = e0.ln ∧ e.lc = e0.lc := by
    intro j e he
    by_cases hj : i = j
    · subst hj
      rw [List.getElem?_set_self hil] at he
      injection he with he
      subst he
      exact ⟨d, hd, rfl, rfl, rfl⟩
    · rw [List.getElem?_set_ne hj] at he
      exact ⟨e, he, rfl, rfl, rfl⟩
  refine ⟨by rw [hfl]; exact h1.row.at_ (Below.heap_setCell _ _ _ _ (Ne.symm b3.1)), by rw [List.length_set]; exact h1.cap, by rw [List.length_set]; exact h1.small, h1.wg, fun q hq => by rw [hsz2]; exact h1.wB q hq, h1.gB, fun j e he => ?_, fun j e he hj h0 => ?_, fun j e he hj => ?_, fun j q e e' he he' hj hq h0 h0' hh => ?_⟩
  · rw [hsz2]
    by_cases hj : i = j
    · subst hj
      rw [List.getElem?_set_self hil] at he
      injection he with he
      subst he
      have hn := (h1.nd i d hd).tch hT hS
      have hal2 : l.AtS (w'.setCell ⟨hl i, k, none⟩ l.v) (fun k => w.heap.size ≤ k ∧ k < w'.heap.size) .i64 := hal.tch hT fun b hb => ⟨hb.2, by have := h.wB _ b2; omega⟩
      have hmem : ∀ l' ∈ d.ls.set k l, l' = l ∨ l' ∈ d.ls := fun l' hl' => (List.mem_or_eq_of_mem_set hl').symm
      refine ⟨hn.1, hn.2.1, hn.2.2.1, by simpa using hn.2.2.2.1, fun l' hl' => ?_, hn.2.2.2.2.2.1, hn.2.2.2.2.2.2.1, hn.2.2.2.2.2.2.2.1, hn.2.2.2.2.2.2.2.2.1, fun l' hl' => ?_⟩
      · rcases hmem l' hl' with rfl | hl'
        · exact hal2.mono fun b hb => ⟨hb.2, fun hw => by have := h.wB b hw; omega⟩
        · exact hn.2.2.2.2.1 l' hl'
      · rcases hmem l' hl' with rfl | hl'
        · exact hcap
        · exact hn.2.2.2.2.2.2.2.2.2 l' hl'
    · rw [List.getElem?_set_ne hj] at he
      exact (h1.nd j e he).tch hT hS
  · by_cases hj2 : i = j
    · subst hj2
      rw [List.getElem?_set_self hil] at he
      injection he with he
      subst he
      refine ⟨b1, b2, b3, b4, ?_⟩
      show Rw _ _ _ _ ((d.ls.set k l).map IS.v)
      rw [List.map_set]
      exact b5.set_ k l.v
    · rw [List.getElem?_set_ne hj2] at he
      obtain ⟨a1, a2, a3, a4, a5⟩ := h1.own j e he hj h0
      exact ⟨a1, a2, a3, a4, a5.at_ (Below.heap_setCell _ _ _ _ fun q => hj2 (h1.inj i j d e hd he hm hj (by omega) h0 q.symm))⟩
  · rw [hsz2]
    have hj2 : i ≠ j := by omega
    rw [List.getElem?_set_ne hj2] at he
    exact (h1.old j e he hj).tch hT hS
  · obtain ⟨f, hf, _, f2, _⟩ := key j e he
    obtain ⟨f', hf', _, f2', _⟩ := key q e' he'
    exact h1.inj j q f f' hf hf' hj hq (by omega) (by omega) hh
/-- A node more, in the same row or in a new one. -/
theorem OwnP.append {w w' : World} {B g g' c c' m : Nat} {W : Nat → Prop} {hl : Nat → Nat} {ns : List ND} (h : OwnP w B g c m W hl ns) (hT : Tch (fun k => k = g) w w') (hg : g' = g ∨ w.heap.size ≤ g') (hB : B ≤ w.heap.size)
    (hr : Rw w' g' 42 (c' * 7) (flat (ns ++ [nd0]))) (hc : ns.length + 1 ≤ c' ∧ c' ≤ maxLen) (hs : ns.length + 1 ≤ 1048576) (hm : m = ns.length) : ∃ W', OwnP w' B g' c' (ns.length + 1) W' hl (ns ++ [nd0]) ∧ ∀ k, W k → W' k := by
  have hsz := hT.size
  have hS : ∀ b, b < w.heap.size ∧ ¬ W b → b < w.heap.size ∧ ¬ b = g := fun b hb => ⟨hb.1, fun e => hb.2 (e ▸ h.wg)⟩
  have hm2 : ∀ b, b < w.heap.size ∧ ¬ W b → b < w'.heap.size ∧ ¬ (W b ∨ b = g') := by
    rintro b ⟨h1, h2⟩
    refine ⟨by omega, ?_⟩
    rintro (h3 | rfl)
    · exact h2 h3
    · rcases hg with rfl | hg
      · exact h2 h.wg
      · omega
  have key : ∀ (j : Nat) (e : ND), (ns ++ [nd0])[j]? = some e → (ns[j]? = some e ∧ j < ns.length) ∨ e = nd0 := by
    intro j e he
    rw [List.getElem?_append] at he
    split at he
    · rename_i hj; exact .inl ⟨he, hj⟩
    · right
      cases hq : j - ns.length with
      | zero => rw [hq] at he; injection he with he; exact he.symm
      | succ q => rw [hq] at he; cases he
  have hgB := h.gB
  refine ⟨fun k => W k ∨ k = g', ⟨hr, by simpa using hc, by simpa using hs, .inr rfl, ?_, ?_, fun j e he => ?_, fun j e he hj h0 => ?_, fun j e he hj => ?_, fun j k e e' he he' hj hk h0 h0' hh => ?_⟩, fun k hk => .inl hk⟩
  · rintro k (hk | rfl)
    · exact Nat.lt_of_lt_of_le (h.wB k hk) hsz
    · exact hr.lt
  · rcases hg with rfl | hg
    · exact hgB
    · omega
  · rcases key j e he with ⟨h1, _⟩ | rfl
    · exact ((h.nd j e h1).tch hT hS).mono hm2
    · exact ⟨⟨fun _ => ⟨rfl, rfl⟩, Nat.zero_le _, ⟨rfl, fun h => absurd h (by decide)⟩, (fun x hx => by cases hx)⟩, fun _ => ⟨rfl, rfl⟩, Nat.zero_le _, rfl, (fun l hl => by cases hl), rfl, rfl, rfl, rfl, (fun l hl => by cases hl)⟩
  · rcases key j e he with ⟨h1, h2⟩ | rfl
    · obtain ⟨a1, a2, a3, a4, a5⟩ := h.own j e h1 (by omega) h0
      have := a5.lt
      refine ⟨a1, .inl a2, ⟨?_, a3.2⟩, a4, a5.at_ (hT.block _ a5.lt a3.1)⟩
      rcases hg with rfl | hg
      · exact a3.1
      · omega
    · exact absurd h0 (by decide)
  · exfalso
    have := (List.getElem?_eq_some_iff.1 he).1
    rw [List.length_append, List.length_singleton] at this
    omega
  · rcases key j e he with ⟨h1, h2⟩ | rfl
    · rcases key k e' he' with ⟨h3, h4⟩ | rfl
      · exact h.inj j k e e' h1 h3 (by omega) (by omega) h0 h0' hh
      · exact absurd h0' (by decide)
    · exact absurd h0 (by decide)
def IS.norm (l : IS) : IS := ⟨none, l.n, l.n, l.xs⟩
/-- A node without its places. -/
def ND.norm (d : ND) : ND := ⟨d.id, d.vec.norm, d.tags, d.level, none, d.ln, d.ln, d.ls.map IS.norm, d.next, d.prev⟩
def Eqv (ns ns' : List ND) : Prop := ns.map ND.norm = ns'.map ND.norm
theorem Eqv.refl (ns : List ND) : Eqv ns ns := rfl
theorem Eqv.symm {ns ns' : List ND} (h : Eqv ns ns') : Eqv ns' ns := Eq.symm h
theorem Eqv.trans {ns ns' ns'' : List ND} (h : Eqv ns ns') (h' : Eqv ns' ns'') : Eqv ns ns'' := Eq.trans h h'
theorem Eqv.len {ns ns' : List ND} (h : Eqv ns ns') : ns.length = ns'.length := by simpa using congrArg List.length h
theorem Eqv.set {ns ns' : List ND} (h : Eqv ns ns') (i : Nat) {d d' : ND} (hd : d.norm = d'.norm) : Eqv (ns.set i d) (ns'.set i d') := by
  unfold Eqv at h ⊢
  rw [List.map_set, List.map_set, h, hd]
theorem Eqv.get {ns ns' : List ND} (h : Eqv ns ns') {i : Nat} {d : ND} (hd : ns[i]? = some d) : ∃ d', ns'[i]? = some d' ∧ d.norm = d'.norm := by
  have h1 := congrArg (·[i]?) h
  simp only [List.getElem?_map, hd, Option.map_some] at h1
  cases h2 : ns'[i]? with
  | none => rw [h2] at h1; cases h1
  | some d' => rw [h2] at h1; injection h1 with h1; exact ⟨d', rfl, h1⟩
theorem Eqv.set1 {ns ns' : List ND} (h : Eqv ns ns') {i : Nat} {d d' : ND} (hd : ns'[i]? = some d) (he : d'.norm = d.norm) : Eqv ns (ns'.set i d') := by
  unfold Eqv at h ⊢
  rw [h, List.map_set, he]
  refine List.ext_getElem? fun q => ?_
  by_cases hq : i = q
  · subst hq
    have := (List.getElem?_eq_some_iff.1 hd).1
    rw [List.getElem?_set_self (by simpa using this), List.getElem?_map, hd]; rfl
  · rw [List.getElem?_set_ne hq]
section
variable (ns : List ND)
theorem nAt_norm (i : Nat) : nAt (ns.map ND.norm) i = (nAt ns i).norm := by
  unfold nAt
  rw [List.getD_eq_getElem?_getD, List.getD_eq_getElem?_getD, List.getElem?_map]
  cases ns[i]? <;> rfl
theorem lsAt_norm (d : ND) (k : Nat) : (lsAt d.norm k).xs = (lsAt d k).xs := by
  unfold lsAt
  rw [List.getD_eq_getElem?_getD, List.getD_eq_getElem?_getD]
  show (((d.ls.map IS.norm)[k]?).getD _).xs = _
  rw [List.getElem?_map]
  cases d.ls[k]? <;> rfl
theorem thN_norm (i : Nat) : thN (ns.map ND.norm) i = thN ns i := by
  unfold thN
  rw [List.length_map, nAt_norm]; rfl
theorem thB_norm (s : Int) : thB (ns.map ND.norm) s = thB ns s := by unfold thB; rw [thN_norm]
theorem lvI_norm (k : Nat) : lvI (ns.map ND.norm) k = lvI ns k := by
  unfold lvI
  congr 1
  exact List.filter_congr fun i _ => thN_norm ns i
theorem liveI_norm : liveI (ns.map ND.norm) = liveI ns := by unfold liveI; rw [List.length_map, lvI_norm]
theorem ringGo_norm : ∀ (f : Nat) (out : List Int) (a : Int), ringGo (ns.map ND.norm) f out a = ringGo ns f out a
  | 0, _, _ => rfl
  | f + 1, out, a => by
    unfold ringGo
    rw [thB_norm, nAt_norm]
    show (if _ then ringGo (ns.map ND.norm) f _ (nAt ns a.toNat).next else _) = _
    rw [ringGo_norm f]
theorem ringI_norm : ringI (ns.map ND.norm) = ringI ns := by
  unfold ringI
  rw [List.length_map, nAt_norm, ringGo_norm]; rfl
theorem rOk_norm (i : Nat) : rOk (ns.map ND.norm) i = rOk ns i := by
  unfold rOk bareB placeB
  rw [thN_norm, nAt_norm]
  show (if _ then _ else ((nAt ns i).next == 0 || thB (ns.map ND.norm) (nAt ns i).next) && ((nAt ns i).prev == 0 || thB (ns.map ND.norm) (nAt ns i).prev) && ((nAt (ns.map ND.norm) (nAt ns i).next.toNat).prev == (i : Int))) = _
  rw [thB_norm, thB_norm, nAt_norm]; rfl
theorem ringB_norm : ringB (ns.map ND.norm) = ringB ns := by
  unfold ringB
  rw [ringI_norm, liveI_norm, List.length_map]
  congr 1
  exact List.all_congr rfl fun i => rOk_norm ns i
theorem backB_norm (slot level : Nat) (x : Int) : backB (ns.map ND.norm) slot level x = backB ns slot level x := by
  unfold backB
  rw [thB_norm, nAt_norm, lsAt_norm]; rfl
theorem listB_norm (slot level : Nat) (links : Int) : listB (ns.map ND.norm) slot level links = listB ns slot level links := by
  unfold listB
  rw [nAt_norm, lsAt_norm, List.length_map]
  congr 1
  exact List.all_congr rfl fun x => backB_norm ns slot level x
theorem nodeB_norm (slot : Nat) (links : Int) : nodeB (ns.map ND.norm) slot links = nodeB ns slot links := by
  unfold nodeB listsB onceB idI
  rw [nAt_norm, liveI_norm]
  have e1 : (List.range (nAt ns slot).norm.ln).all (fun l => listB (ns.map ND.norm) slot l links) = (List.range (nAt ns slot).ln).all (fun l => listB ns slot l links) := List.all_congr rfl fun l => listB_norm ns slot l links
  have e2 : (liveI ns).all (fun x => !((x != (slot : Int)) && ((nAt (ns.map ND.norm) x.toNat).id == (nAt (ns.map ND.norm) (slot : Int).toNat).id))) = (liveI ns).all (fun x => !((x != (slot : Int)) && ((nAt ns x.toNat).id == (nAt ns (slot : Int).toNat).id))) := List.all_congr rfl fun x => by rw [nAt_norm, nAt_norm]; rfl
  rw [e1, e2]; rfl
theorem entB_norm (en tp : Int) : entB (ns.map ND.norm) en tp = entB ns en tp := by
  unfold entB
  rw [thB_norm, nAt_norm]; rfl
theorem chkB_norm (links en tp : Int) : chkB (ns.map ND.norm) links en tp = chkB ns links en tp := by
  unfold chkB
  rw [List.length_map, ringB_norm, liveI_norm, entB_norm]
  congr 2
  exact List.all_congr rfl fun x => nodeB_norm ns x.toNat links
theorem nearSrc_norm (k : Nat) (level : Int) : nearSrc (ns.map ND.norm) k level = nearSrc ns k level := by
  unfold nearSrc
  rw [nAt_norm, lsAt_norm, show (nAt ns k).norm.ls.length = (nAt ns k).ls.length from List.length_map ..]; rfl
theorem nearQ_norm (l : List Int) : nearQ (ns.map ND.norm) l = nearQ ns l := by
  funext i
  unfold nearQ
  rw [thB_norm]
theorem nearI_norm (s level : Int) : nearI (ns.map ND.norm) s level = nearI ns s level := by
  unfold nearI
  rw [List.length_map, nearSrc_norm, nearQ_norm]
end
section
variable {ns ns' : List ND}
theorem Eqv.thB (h : Eqv ns ns') (s : Int) : thB ns s = Proofs.Ytbpcddimnbjoeaa.thB ns' s := by rw [← thB_norm, h, thB_norm]
theorem Eqv.live (h : Eqv ns ns') : liveI ns = liveI ns' := by rw [← liveI_norm, h, liveI_norm]
theorem Eqv.ring (h : Eqv ns ns') : ringI ns = ringI ns' := by rw [← ringI_norm, h, ringI_norm]
theorem Eqv.near (h : Eqv ns ns') (s level : Int) : nearI ns s level = nearI ns' s level := by rw [← nearI_norm, h, nearI_norm]
theorem Eqv.chk (h : Eqv ns ns') (links en tp : Int) : chkB ns links en tp = chkB ns' links en tp := by rw [← chkB_norm, h, chkB_norm]
theorem Eqv.chkW (h : Eqv ns ns') (links en tp : Int) : chkW ns links en tp = Proofs.Ytbpcddimnbjoeaa.chkW ns' links en tp := by unfold Proofs.Ytbpcddimnbjoeaa.chkW; rw [h.chk]
theorem Eqv.nAt (h : Eqv ns ns') (i : Nat) : (nAt ns i).norm = (Proofs.Ytbpcddimnbjoeaa.nAt ns' i).norm := by rw [← nAt_norm, h, nAt_norm]
end
theorem exec_load {w : World} {o : Oper} {a : Act} {ty : TypeId} {p v : Value} {x : Operand} (ho : o.op = .load ty x) (hx : a.eval x = p) (hr : (Instr.loadAt ty p).run Try.prog w = .ok v w) : (execOp a.eval o).run Try.prog w = .ok (.value v) w := by
  unfold execOp
  simp only [ho, hx, Sem.run_bind, hr, Result.andThen_ok]
  rfl
theorem load_i32s {w : World} {b o : Nat} {A : Option Addr} {n c : Nat} (h : w.cell? ⟨b, o, none⟩ = some (.slice A n c)) : (Instr.loadAt 37 (.pointer (some ⟨b, o, none⟩))).run Try.prog w = .ok (.slice A n c) w := by
  simp [go_sem, h]
theorem store_i32s {w : World} {b o : Nat} {u v : Value} (h : w.cell? ⟨b, o, none⟩ = some u) (hf : w.frozen? ⟨b, o, none⟩ = false) {A : Option Addr} {n c : Nat} (hv : v = .slice A n c := by rfl) : (Instr.storeAt 37 (.pointer (some ⟨b, o, none⟩)) v).run Try.prog w = .ok () (w.setCell ⟨b, o, none⟩ v) := by
  subst hv
  simp [go_sem, h, hf]
/-- The plane is another one, of the call's own. -/
def RetP (B0 : Nat) (ns : List ND) (en tp : Int) (w : World) (e : Ending) (w' : World) : Prop := ∃ B g c W hl ns', e = .returned (.agg (pgL (some ⟨g, 0, none⟩) ns.length c en tp)) ∧ w.heap.size ≤ B ∧ OwnP w' B g c ns.length W hl ns' ∧ Eqv ns ns' ∧ (∀ k, B0 ≤ k → k < w.heap.size → W k) ∧ Below w.heap.size w w'
/-- The rows while they are cloned: of the first j nodes. -/
structure OwnS (B0 : Nat) (w wr : World) (g c j : Nat) (en tp : Int) (ns ns' : List ND) (W : Nat → Prop) (hl : Nat → Nat) : Prop where
  own : OwnP wr (w.heap.size + 2) g c j W hl ns'
  eqv : Eqv ns ns'
  bel : Below w.heap.size w wr
  pl : Blk wr w.heap.size 24 (pgL (some ⟨g, 0, none⟩) ns.length c en tp)
  res : Blk wr (w.heap.size + 1) 24 (pgL none 0 0 0 0)
  w2 : ∀ k, B0 ≤ k → k < w.heap.size + 2 → W k
/-- A row of lists while they are cloned: the first k. -/
structure OwnK (w5 wi : World) (h lc k : Nat) (ls0 ls : List IS) (B : Nat) : Prop where
  row : Rw wi h 43 (lc * 1) (ls.map IS.v)
  len : ls.length = ls0.length
  norm : ls.map IS.norm = ls0.map IS.norm
  done : ∀ q l, q < k → ls[q]? = some l → l.AtS wi (fun b => B ≤ b ∧ b < wi.heap.size ∧ b ≠ h) .i64 ∧ l.n ≤ l.c
  rest : ∀ q, k ≤ q → ls[q]? = ls0[q]?
  tch : Tch (fun b => b = h) w5 wi
theorem OwnK.next {w5 wi w6 : World} {h lc k B n c : Nat} {ls0 ls : List IS} {A : Option Addr} (H : OwnK w5 wi h lc k ls0 ls B) (hB : B ≤ h) {l : IS} (hl : ls0[k]? = some l) (hla : l.AtS wi (fun _ => True) .i64)
    (ho : OwnI w6 wi.heap.size A n c l.xs) (hb : Below wi.heap.size wi w6) : n = l.n ∧ w6.frozen? ⟨h, k, none⟩ = false ∧ (∃ u, w6.cell? ⟨h, k, none⟩ = some u) ∧ OwnK w5 (w6.setCell ⟨h, k, none⟩ (.slice A n c)) h lc (k + 1) ls0 (ls.set k ⟨A, n, c, l.xs⟩) B := by
  have hk : ls[k]? = some l := (H.rest k (Nat.le_refl _)).trans hl
  have hkl := (List.getElem?_eq_some_iff.1 hk).1
  have hn : n = l.n := by rw [← ho.len, ← hla.2.2.1.1, List.length_map]
  have hlt := H.row.lt
  have R6 : Rw w6 h 43 (lc * 1) (ls.map IS.v) := H.row.at_ (hb.block _ hlt)
  have hsz := hb.size
  have hsz2 : (w6.setCell ⟨h, k, none⟩ (.slice A n c)).heap.size = w6.heap.size := by simp [World.setCell]
  have hT6 : Tch (fun b => b = h) w6 (w6.setCell ⟨h, k, none⟩ (.slice A n c)) := Tch.setCell (S := fun b => b = h) (Tch.refl _ _) rfl _ _
  refine ⟨hn, R6.frozen k, ⟨l.v, R6.cell (by rw [List.getElem?_map, hk]; rfl)⟩, ?_, by rw [List.length_set]; exact H.len, ?_, fun q l' hq hl' => ?_, fun q hq => ?_, (H.tch.trans (Tch.of_below hb) (fun _ q => .inl q)).trans hT6 (fun _ q => .inl q)⟩
  · have := R6.set_ k (IS.v ⟨A, n, c, l.xs⟩)
    rw [← List.map_set] at this
    exact this
  · rw [List.map_set, H.norm]
    refine List.ext_getElem? fun q => ?_
    by_cases hq : k = q
    · subst hq
      rw [List.getElem?_set_self (by rw [List.length_map, ← H.len]; exact hkl), List.getElem?_map, hl]
      show _ = some (IS.norm l)
      unfold IS.norm
      rw [hn]
    · rw [List.getElem?_set_ne hq]
  · rw [hsz2]
    by_cases hq2 : k = q
    · subst hq2
      rw [List.getElem?_set_self hkl] at hl'
      injection hl' with hl'
      subst hl'
      have hrd : RdS w6 (fun b => wi.heap.size ≤ b ∧ b < w6.heap.size) A n (l.xs.map (.int .i64)) := by
        refine ⟨by rw [List.length_map]; exact ho.len, fun h0 => ?_⟩
        rcases ho.row with ⟨_, e0, _⟩ | ⟨g, e, hg, _, _, cs, hcs, hln, htk⟩
        · omega
        · refine ⟨g, 0, e, ⟨hg, hcs.ib.lt⟩, fun q u hu => ?_⟩
          rw [List.getElem?_map, Option.map_eq_some_iff] at hu
          obtain ⟨x, hx, rfl⟩ := hu
          have hqn : q < n := by rw [← ho.len]; exact (List.getElem?_eq_some_iff.1 hx).1
          rw [Nat.zero_add, hcs.ib.cell (by omega)]
          congr 2
          rw [← htk, List.getElem?_take, if_pos hqn] at hx
          unfold ig; rw [List.getD_eq_getElem?_getD, hx]; rfl
      have hat : IS.AtS w6 (fun b => wi.heap.size ≤ b ∧ b < w6.heap.size) .i64 ⟨A, n, c, l.xs⟩ := ⟨ho.none_, by show n ≤ _; rw [hn]; exact hla.2.1, hrd, hla.2.2.2⟩
      refine ⟨(hat.tch hT6 fun b hb => ⟨hb.2, by omega⟩).mono fun b hb => ⟨by have := H.tch.size; omega, hb.2, by omega⟩, ?_⟩
      show n ≤ c
      rcases ho.row with ⟨_, e0, _⟩ | ⟨g, e, hg, h9, _⟩
      · omega
      · exact h9
    · rw [List.getElem?_set_ne hq2] at hl'
      obtain ⟨a1, a2⟩ := H.done q l' (by omega) hl'
      refine ⟨((a1.tch (Tch.of_below (S := fun _ => False) hb) fun b hb => ⟨hb.2.1, fun h => h⟩).mono (S' := fun b => B ≤ b ∧ b < w6.heap.size ∧ b ≠ h) fun b hb => ⟨hb.1, by omega, hb.2.2⟩).tch hT6 fun b hb => ⟨hb.2.1, hb.2.2⟩, a2⟩
  · rw [List.getElem?_set_ne (by omega)]
    exact H.rest q (by omega)
/-- The lists of the next node are the call's own. -/
theorem OwnS.lists {w wr w5 wi : World} {B0 g c j h c5 : Nat} {en tp : Int} {ns ns' : List ND} {W : Nat → Prop} {hl : Nat → Nat} (H : OwnS B0 w wr g c j en tp ns ns' W hl) {d : ND} (hd : ns'[j]? = some d) (b5 : Below wr.heap.size wr w5) {A5 : Option Addr} {ls : List IS}
    (hA : A5 = none ↔ d.LA = none) (hlen : ls.length = d.ln) (hnorm : ls.map IS.norm = d.ls.map IS.norm) (h0 : d.ln = 0 → wi = w5 ∧ c5 = c5) (hz : A5 = none → c5 = 0)
    (h1 : 0 < d.ln → A5 = some ⟨h, 0, none⟩ ∧ wr.heap.size ≤ h ∧ h < w5.heap.size ∧ d.ln ≤ c5 ∧ OwnK w5 wi h c5 d.ln d.ls ls wr.heap.size) :
    wi.cell? ⟨w.heap.size, 0, none⟩ = some (.slice (some ⟨g, 0, none⟩) ns.length c) ∧ wi.cell? ⟨g, j * 7 + 4, none⟩ = some (.slice d.LA d.ln d.lc) ∧ wi.frozen? ⟨g, j * 7 + 4, none⟩ = false ∧
    ∃ W' hl', OwnS B0 w (wi.setCell ⟨g, j * 7 + 4, none⟩ (.slice A5 d.ln c5)) g c (j + 1) en tp ns (ns'.set j ⟨d.id, d.vec, d.tags, d.level, A5, d.ln, c5, ls, d.next, d.prev⟩) W' hl' := by
  have bi : Below wr.heap.size wr wi := by
    by_cases hp : 0 < d.ln
    · obtain ⟨_, q1, q2, _, K⟩ := h1 hp
      exact b5.trans (K.tch.below b5.size (by rintro k rfl; exact q1))
    · rw [(h0 (by omega)).1]; exact b5
  have hj := (List.getElem?_eq_some_iff.1 hd).1
  have hnd := H.own.nd j d hd
  have hsz := H.bel.size
  have hszi := bi.size
  have hgl := H.own.row.lt
  have hgB := H.own.gB
  have P := H.pl.below bi H.pl.lt
  have R := H.res.below bi H.res.lt
  have Rg : Rw wi g 42 (c * 7) (flat ns') := H.own.row.at_ (bi.block _ hgl)
  refine ⟨P.cell 0, Rg.cell (flat_get2 hd 4 (by decide)), Rg.frozen _, ?_⟩
  have hT : Tch (fun k => k = g) wr (wi.setCell ⟨g, j * 7 + 4, none⟩ (.slice A5 d.ln c5)) := Tch.setCell (S := fun k => k = g) (Tch.of_below bi) rfl _ _
  have hsz2 : (wi.setCell ⟨g, j * 7 + 4, none⟩ (.slice A5 d.ln c5)).heap.size = wi.heap.size := by simp [World.setCell]
  have hTi : Tch (fun k => k = g) wi (wi.setCell ⟨g, j * 7 + 4, none⟩ (.slice A5 d.ln c5)) := Tch.setCell (S := fun k => k = g) (Tch.refl _ _) rfl _ _
  have hwn : ∀ b, b < wr.heap.size ∧ ¬ W b → b < wr.heap.size ∧ ¬ b = g := fun b hb => ⟨hb.1, fun e => hb.2 (e ▸ H.own.wg)⟩
  have hAl : ∀ l ∈ ls, l.AtS wi (fun b => wr.heap.size ≤ b ∧ b < wi.heap.size ∧ b ≠ h) .i64 ∧ l.n ≤ l.c := by
    intro l hl
    obtain ⟨q, hq, rfl⟩ := List.mem_iff_getElem.1 hl
    exact (h1 (by omega)).2.2.2.2.done q _ (by omega) (List.getElem?_eq_getElem hq)
  obtain ⟨W', hl', O, hW⟩ := H.own.step (w' := wi.setCell ⟨g, j * 7 + 4, none⟩ (.slice A5 d.ln c5)) hT (i := j) (d' := ⟨d.id, d.vec, d.tags, d.level, A5, d.ln, c5, ls, d.next, d.prev⟩) (m' := j + 1) hj (.inr ⟨rfl, rfl⟩) (by omega) (by have := H.res.lt; omega)
    (by
      have := Rg.set_ (j * 7 + 4) (.slice A5 d.ln c5)
      rw [flat_set (k := 4) (d' := ⟨d.id, d.vec, d.tags, d.level, A5, d.ln, c5, ls, d.next, d.prev⟩) hd (by decide) rfl] at this
      exact this)
    (by
      refine ⟨(hnd.1.tch hT hwn).mono fun b hb => ⟨by omega, .inl hb⟩, fun e => ⟨(hnd.2.1 (hA.1 e)).1, hz e⟩, hnd.2.2.1, hlen, fun l hl => ?_, hnd.2.2.2.2.2.1, hnd.2.2.2.2.2.2.1, hnd.2.2.2.2.2.2.2.1, hnd.2.2.2.2.2.2.2.2.1, fun l hl => (hAl l hl).2⟩
      refine ((hAl l hl).1.tch hTi fun b hb => ⟨hb.2.1, by omega⟩).mono fun b hb => ⟨by omega, .inr ⟨hb.1, ?_⟩⟩
      intro e
      have hp : 0 < d.ln := by rw [← hlen]; exact List.length_pos_of_mem hl
      rw [(h1 hp).1] at e
      injection e with e
      injection e with e
      exact hb.2.2 e.symm)
    (fun hp => by
      obtain ⟨q1, q2, q3, q4, K⟩ := h1 hp
      exact ⟨h, q1, q2, q4, K.row.at_ (Below.heap_setCell _ _ _ _ (by show h ≠ g; omega))⟩)
  exact ⟨W', hl', O, H.eqv.set1 hd (by unfold ND.norm; rw [hnorm]), (H.bel.trans (bi.mono hsz)).setCell (by show w.heap.size ≤ g; omega) _, P.far (by show w.heap.size ≠ g; omega) _, R.far (by show w.heap.size + 1 ≠ g; omega) _, fun k q1 q2 => hW _ (H.w2 k q1 q2)⟩
theorem load_i32s' {w : World} {b o : Nat} {v : IS} (h : w.cell? ⟨b, o, none⟩ = some v.v) : (Instr.loadAt 37 (.pointer (some ⟨b, o, none⟩))).run Try.prog w = .ok (.slice v.A v.n v.c) w := load_i32s h
/-- .. and its vector. -/
theorem OwnS.vec {w wr Z : World} {B0 g c j m : Nat} {en tp : Int} {ns ns' : List ND} {W : Nat → Prop} {hl : Nat → Nat} (H : OwnS B0 w wr g c m en tp ns ns' W hl) {d : ND} (hd : ns'[j]? = some d) {A9 : Option Addr} {c9 : Nat}
    (ho : Z.ownsRow wr.heap.size 21 1 (.slice A9 d.vec.n c9) d.vec.n (d.vec.xs.map (.int .i32))) (hb : Below wr.heap.size wr Z) :
    Z.cell? ⟨g, j * 7 + 1, none⟩ = some d.vec.v ∧ Z.frozen? ⟨g, j * 7 + 1, none⟩ = false ∧ (Z.setCell ⟨g, j * 7 + 1, none⟩ (.slice A9 d.vec.n c9)).cell? ⟨w.heap.size, 0, none⟩ = some (.slice (some ⟨g, 0, none⟩) ns.length c) ∧
    OwnS B0 w (Z.setCell ⟨g, j * 7 + 1, none⟩ (.slice A9 d.vec.n c9)) g c m en tp ns (ns'.set j ⟨d.id, ⟨A9, d.vec.n, c9, d.vec.xs⟩, d.tags, d.level, d.LA, d.ln, d.lc, d.ls, d.next, d.prev⟩) W hl := by
  have hnd := H.own.nd j d hd
  have hsz := H.bel.size
  have hszi := hb.size
  have hgl := H.own.row.lt
  have hgB := H.own.gB
  have P := H.pl.below hb H.pl.lt
  have R := H.res.below hb H.res.lt
  have Rg : Rw Z g 42 (c * 7) (flat ns') := H.own.row.at_ (hb.block _ hgl)
  have P2 := P.far (p := ⟨g, j * 7 + 1, none⟩) (by show w.heap.size ≠ g; omega) (.slice A9 d.vec.n c9)
  have hT : Tch (fun k => k = g) wr (Z.setCell ⟨g, j * 7 + 1, none⟩ (.slice A9 d.vec.n c9)) := Tch.setCell (S := fun k => k = g) (Tch.of_below hb) rfl _ _
  have hTi : Tch (fun k => k = g) Z (Z.setCell ⟨g, j * 7 + 1, none⟩ (.slice A9 d.vec.n c9)) := Tch.setCell (S := fun k => k = g) (Tch.refl _ _) rfl _ _
  have hsz2 : (Z.setCell ⟨g, j * 7 + 1, none⟩ (.slice A9 d.vec.n c9)).heap.size = Z.heap.size := by simp [World.setCell]
  have hwn : ∀ b, b < wr.heap.size ∧ ¬ W b → b < wr.heap.size ∧ ¬ b = g := fun b hb => ⟨hb.1, fun e => hb.2 (e ▸ H.own.wg)⟩
  refine ⟨Rg.cell (flat_get2 hd 1 (by decide)), Rg.frozen _, P2.cell 0, ?_, H.eqv.set1 hd ?_, (H.bel.trans (hb.mono hsz)).setCell (by show w.heap.size ≤ g; omega) _, P2, R.far (by show w.heap.size + 1 ≠ g; omega) _, H.w2⟩
  · refine H.own.same (w' := Z.setCell ⟨g, j * 7 + 1, none⟩ (.slice A9 d.vec.n c9)) hT hd ?_ ⟨rfl, rfl, rfl, rfl⟩ ?_
    · have := Rg.set_ (j * 7 + 1) (.slice A9 d.vec.n c9)
      rw [flat_set (k := 1) (u := .slice A9 d.vec.n c9) (d' := ⟨d.id, ⟨A9, d.vec.n, c9, d.vec.xs⟩, d.tags, d.level, d.LA, d.ln, d.lc, d.ls, d.next, d.prev⟩) hd (by decide) rfl] at this
      exact this
    · refine ⟨?_, hnd.2.1, hnd.2.2.1, hnd.2.2.2.1, fun l hl => ((hnd.2.2.2.2.1 l hl).tch hT hwn).mono fun b hb => ⟨by omega, .inl hb⟩, hnd.2.2.2.2.2⟩
      refine ⟨fun e => ?_, hnd.1.2.1, ?_, hnd.1.2.2.2⟩
      · rcases ho.2 with ⟨q, q0⟩ | ⟨x, cap, cur, q, _⟩
        · injection q with _ q2 q3; exact ⟨q2, q3⟩
        · injection q with q1 _ _; exact absurd (e.symm.trans q1) (by simp)
      · refine ⟨by simpa using ho.1, fun h0 => ?_⟩
        obtain ⟨x, e, hx, _, _, hr⟩ := Rw.of_own ho h0
        have hxl := hr.lt
        refine ⟨x, 0, e, ⟨by omega, .inr hx⟩, fun q u hu => ?_⟩
        rw [Nat.zero_add]
        exact (hTi.cell (p := ⟨x, q, none⟩) hxl (by show ¬ x = g; omega)).trans (hr.cell hu)
  · unfold ND.norm IS.norm; rfl
theorem planeZ : pgL none 0 0 0 0 = #[.slice none 0 0, .int .i64 0, .int .i64 0] := rfl
theorem load_u64 {w : World} {b o : Nat} {v : Int} (h : w.cell? ⟨b, o, none⟩ = some (.int .u64 v)) : (Instr.loadAt 36 (.pointer (some ⟨b, o, none⟩))).run Try.prog w = .ok (.int .u64 v) w := by
  simp [go_sem, h]
/-- An item's cells. -/
def itL (id : Int) (vA : Option Addr) (vn vc : Nat) (tags : Int) : Array Value := #[.int .u64 id, .slice vA vn vc, .int .u64 tags]
/-- Whether an id is there. -/
def hasId (ns : List ND) (id : Int) : Bool := (liveI ns).any fun x => idI ns x == id
/-- The least slot that is not there: behind the first j that are. -/
def slotJ (ns : List ND) (j : Nat) : Nat := ((liveI ns).take j).foldl (fun s x => if x == (s : Int) then s + 1 else s) 1
def slotI (ns : List ND) : Nat := slotJ ns (liveI ns).length
theorem slotJ_succ {ns : List ND} {j : Nat} (hj : j < (liveI ns).length) : slotJ ns (j + 1) = if ig (liveI ns) j == (slotJ ns j : Int) then slotJ ns j + 1 else slotJ ns j := by
  unfold slotJ
  rw [take_step hj, List.foldl_append]
  rfl
theorem slotJ_le (ns : List ND) : ∀ j, 1 ≤ slotJ ns j ∧ slotJ ns j ≤ j + 1
  | 0 => by unfold slotJ; simp
  | j + 1 => by
    by_cases hj : j < (liveI ns).length
    · rw [slotJ_succ hj]
      have := slotJ_le ns j
      split <;> omega
    · have e : slotJ ns (j + 1) = slotJ ns j := by unfold slotJ; rw [List.take_of_length_le (by omega), List.take_of_length_le (by omega)]
      rw [e]
      have := slotJ_le ns j
      omega
/-- A struct and two temporaries, returned. -/
theorem results_row12 {P : Program} {fn : Func} {p u v : Tmp} {t1 : TypeId} (h : fn.results = #[.cell p t1, .tmp u, .tmp v]) (tmps : Array Value) {w : World} {g1 : Nat} {c1 : Array Value} {d1 : TypeDesc}
    (hp : tmps.getD p undef = .pointer (some ⟨g1, 0, none⟩)) {u1 : Nat} (b1 : Blk w g1 u1 c1)
    (hu1 : P.underlying t1 = some d1) (hd1 : (match d1 with | .struct _ | .array _ _ => true | _ => false) = true) (hi1 : (P.info? t1).map (·.size) = some c1.size) :
    (results fn tmps).run P w = .ok (.tuple #[.agg c1, tmps.getD u undef, tmps.getD v undef]) w := by
  have hp' : tmps[p]?.getD undef = .pointer (some ⟨g1, 0, none⟩) := by simpa using hp
  simp [results, h, hp', asAddr, run_loadVar_row w g1 u1 t1 c1 (0, 0) d1 b1 hu1 hd1 hi1, Result.andThen]
theorem results_row11 {P : Program} {fn : Func} {p u : Tmp} {t1 : TypeId} (h : fn.results = #[.cell p t1, .tmp u]) (tmps : Array Value) {w : World} {g1 : Nat} {c1 : Array Value} {d1 : TypeDesc}
    (hp : tmps.getD p undef = .pointer (some ⟨g1, 0, none⟩)) {u1 : Nat} (b1 : Blk w g1 u1 c1)
    (hu1 : P.underlying t1 = some d1) (hd1 : (match d1 with | .struct _ | .array _ _ => true | _ => false) = true) (hi1 : (P.info? t1).map (·.size) = some c1.size) :
    (results fn tmps).run P w = .ok (.tuple #[.agg c1, tmps.getD u undef]) w := by
  have hp' : tmps[p]?.getD undef = .pointer (some ⟨g1, 0, none⟩) := by simpa using hp
  simp [results, h, hp', asAddr, run_loadVar_row w g1 u1 t1 c1 (0, 0) d1 b1 hu1 hd1 hi1, Result.andThen]
/-- In a region that draws: the one operation that may come up next yields its value, and makes memory. -/
theorem wpAnyH_make {P : Program} {ops : Array Oper} {Q : Exit → Act → World → Prop} {md : Region.Mode} {S : World → Prop} {fuel : Nat} {listed : Array Bool} {a : Act} {w w' : World} {o : Oper} (i : Nat) (v : Value) (hr : Region.ready md ops listed = [i]) (ho : ops[i]? = some o) (hw : Region.wanted o (yielded ops a.tmps) = true)
    (hrun : (execOp a.eval o).run P w = .ok (.value v) w') (hS : S w') (h : wpAnyH P md ops Q S fuel (listed.setIfInBounds i true) (a.put o.dst v) w') : wpAnyH P md ops Q S (fuel + 1) listed a w := by
  refine wpAnyH_ready hr (by simp) (AllReadyH.cons ho (fun K hK => ?_) AllReadyH.nil)
  rw [if_pos hw]
  unfold Oper.wp
  rw [hrun]
  exact hK.out _ _ hS (fun _ => h)
/-- A plane that is told. -/
def RetG (P : List ND → Prop) (en tp : Int) (w : World) (e : Ending) (w' : World) : Prop := ∃ g n c ns, e = .returned (.agg (pgL (some ⟨g, 0, none⟩) n c en tp)) ∧ PgAt w' w'.heap.size (some ⟨g, 0, none⟩) n c ns ∧ P ns ∧ Below w.heap.size w w'
theorem nd0_at (w : World) (B : Nat) : nd0.At w B := ⟨⟨fun _ => ⟨rfl, rfl⟩, Nat.zero_le _, Rd.nil_, (fun x hx => by cases hx)⟩, fun _ => ⟨rfl, rfl⟩, Nat.zero_le _, Rs.nil_, (fun l hl => by cases hl), rfl, rfl, rfl, rfl, (fun l hl => by cases hl)⟩
set_option maxRecDepth 100000 in
theorem pl_new (w : World) : Calls Try.prog 12 #[] w (RetG (fun ns => ns = [nd0]) 0 0 w) := by
  obtain ⟨w1, hw1⟩ : ∃ x, w.alloc (.cells (pgL none 0 0 0 0) 24) = x := ⟨_, rfl⟩
  obtain ⟨k1, b1⟩ := box_plane hw1
  obtain ⟨w2, hw2⟩ : ∃ x, w1.alloc (.cells nd0.cells 42) = x := ⟨_, rfl⟩
  have b2 : Below w1.heap.size w1 w2 := by rw [← hw2]; exact bel_box _ _
  have k2 : Blk w2 w1.heap.size 42 nd0.cells := by rw [← hw2]; exact Blk.new _ _ _
  have kp := k1.below b2 k1.lt
  have SR := row_store kp (pgL (some ⟨w1.heap.size, 0, none⟩) 1 1 0 0) rfl planeT (by simp [pgL, Value.oneCell'])
  obtain ⟨w3, hw3⟩ : ∃ x, w2.setCells w.heap.size 0 (pgL (some ⟨w1.heap.size, 0, none⟩) 1 1 0 0).toList = x := ⟨_, rfl⟩
  have hT : Tch (fun k => k = w.heap.size) w2 w3 := by rw [← hw3]; exact Tch.setCells (S := fun k => k = w.heap.size) rfl _ _ _ (Tch.refl _ _)
  have hs1 := k1.lt
  have k3 := k2.tch hT (by omega)
  have kr : Blk w3 w.heap.size 24 (pgL (some ⟨w1.heap.size, 0, none⟩) 1 1 0 0) := by rw [← hw3]; exact kp.put _ rfl
  have HB : Hid (Below w.heap.size w w3) := by
    show Below _ _ _
    rw [← hw3]; exact below_setCells (b1.trans (b2.mono b1.size)) (Nat.le_refl _) (Nat.le_refl _) _ _
  have HG : Hid (PgAt w3 w3.heap.size (some ⟨w1.heap.size, 0, none⟩) 1 1 [nd0]) := by
    refine ⟨fun e => (by cases e), by decide, ⟨rfl, cells7 [nd0], fun _ => ⟨w1.heap.size, 0, rfl, k3.lt, fun i c hi j v hv => ?_⟩⟩, fun d hd => ?_⟩
    · cases i with
      | zero =>
        injection hi with hi
        subst hi
        rw [Nat.zero_mul, Nat.add_zero, Nat.zero_add, k3.cell, ← Array.getElem?_toList]
        exact hv
      | succ i => cases hi
    · obtain rfl : d = nd0 := by simpa using hd
      exact nd0_at _ _
  have HK := Lib.hid kr
  rw [hw3] at SR
  clear hT k3 kr kp b1 b2 k1 k2 hw3 hs1
  rw [nd0_lit] at hw2
  rw [planeZ] at hw1
  unfold pgL at SR
  go_enter Try.func12, Try.ntmps12
  go_upto_region 1 with fail
  (try rw [hw1])
  clear hw1
  go_wp2_with (refine wpList_storeE SR _ _ rfl rfl rfl rfl ?_)
  refine bodyPost_ret (v := .agg (pgL (some ⟨w1.heap.size, 0, none⟩) 1 1 0 0)) ?_ rfl ⟨w1.heap.size, 1, 1, [nd0], rfl, HG.out, rfl, HB.out⟩
  exact results_cell_row Try.results12 _ _ w.heap.size 24 _ (0, 0) _ rfl HK.out Try.underlying24 rfl planeT
theorem getElem_nAt {ns : List ND} {i : Nat} (h : i < ns.length) : ns[i]? = some (nAt ns i) := by rw [nAt_of (List.getElem?_eq_getElem h)]; exact List.getElem?_eq_getElem h
/-- A node's place in the ring is another one. -/
theorem OwnP.setNext {w : World} {B g c m : Nat} {W : Nat → Prop} {hl : Nat → Nat} {ns : List ND} (h : OwnP w B g c m W hl ns) {i : Nat} (hi : i < ns.length) {v : Int} (hv : (Lit.int .i64 v).wf = true) :
    w.cell? ⟨g, i * 7 + 5, none⟩ = some (.int .i64 (nAt ns i).next) ∧ w.frozen? ⟨g, i * 7 + 5, none⟩ = false ∧ OwnP (w.setCell ⟨g, i * 7 + 5, none⟩ (.int .i64 v)) B g c m W hl (ns.set i { nAt ns i with next := v }) := by
  have hd := getElem_nAt hi
  have hT : Tch (fun k => k = g) w (w.setCell ⟨g, i * 7 + 5, none⟩ (.int .i64 v)) := Tch.setCell (S := fun k => k = g) (Tch.refl _ _) rfl _ _
  have hsz : (w.setCell ⟨g, i * 7 + 5, none⟩ (.int .i64 v)).heap.size = w.heap.size := by simp [World.setCell]
  refine ⟨h.row.cell (flat_get2 hd 5 (by decide)), h.row.frozen _, h.same hT hd ?_ ⟨rfl, rfl, rfl, rfl⟩ ?_⟩
  · have := h.row.set_ (i * 7 + 5) (.int .i64 v)
    rw [flat_set (k := 5) (d' := { nAt ns i with next := v }) hd (by decide) rfl] at this
    exact this
  · have hn := (h.nd i _ hd).tch hT fun b hb => ⟨hb.1, fun e => hb.2 (e ▸ h.wg)⟩
    exact ⟨hn.1.mono fun b hb => ⟨by omega, .inl hb⟩, hn.2.1, hn.2.2.1, hn.2.2.2.1, fun l hl => (hn.2.2.2.2.1 l hl).mono fun b hb => ⟨by omega, .inl hb⟩, hn.2.2.2.2.2.1, hn.2.2.2.2.2.2.1, hv, hn.2.2.2.2.2.2.2.2.1, hn.2.2.2.2.2.2.2.2.2⟩
theorem OwnP.setPrev {w : World} {B g c m : Nat} {W : Nat → Prop} {hl : Nat → Nat} {ns : List ND} (h : OwnP w B g c m W hl ns) {i : Nat} (hi : i < ns.length) {v : Int} (hv : (Lit.int .i64 v).wf = true) :
    w.cell? ⟨g, i * 7 + 6, none⟩ = some (.int .i64 (nAt ns i).prev) ∧ w.frozen? ⟨g, i * 7 + 6, none⟩ = false ∧ OwnP (w.setCell ⟨g, i * 7 + 6, none⟩ (.int .i64 v)) B g c m W hl (ns.set i { nAt ns i with prev := v }) := by
  have hd := getElem_nAt hi
  have hT : Tch (fun k => k = g) w (w.setCell ⟨g, i * 7 + 6, none⟩ (.int .i64 v)) := Tch.setCell (S := fun k => k = g) (Tch.refl _ _) rfl _ _
  have hsz : (w.setCell ⟨g, i * 7 + 6, none⟩ (.int .i64 v)).heap.size = w.heap.size := by simp [World.setCell]
  refine ⟨h.row.cell (flat_get2 hd 6 (by decide)), h.row.frozen _, h.same hT hd ?_ ⟨rfl, rfl, rfl, rfl⟩ ?_⟩
  · have := h.row.set_ (i * 7 + 6) (.int .i64 v)
    rw [flat_set (k := 6) (d' := { nAt ns i with prev := v }) hd (by decide) rfl] at this
    exact this
  · have hn := (h.nd i _ hd).tch hT fun b hb => ⟨hb.1, fun e => hb.2 (e ▸ h.wg)⟩
    exact ⟨hn.1.mono fun b hb => ⟨by omega, .inl hb⟩, hn.2.1, hn.2.2.1, hn.2.2.2.1, fun l hl => (hn.2.2.2.2.1 l hl).mono fun b hb => ⟨by omega, .inl hb⟩, hn.2.2.2.2.2.1, hn.2.2.2.2.2.2.1, hn.2.2.2.2.2.2.2.1, hv, hn.2.2.2.2.2.2.2.2.2⟩
/-- A plane under way: its own memory, and the boxes of a plane and of what is told. -/
structure PtS (w wr : World) (r B g c : Nat) (en tp : Int) (W : Nat → Prop) (hl : Nat → Nat) (ns : List ND) : Prop where
  own : OwnP wr B g c ns.length W hl ns
  bel : Below w.heap.size w wr
  pl : Blk wr w.heap.size 24 (pgL (some ⟨g, 0, none⟩) ns.length c en tp)
  res : Blk wr r 24 (pgL none 0 0 0 0)
  wl : ∀ k, w.heap.size ≤ k → k ≤ r → W k
  bB : r < B ∧ w.heap.size < r ∧ B ≤ wr.heap.size
theorem PtS.start {w w6 w7 : World} {r B g c n : Nat} {en tp en0 tp0 : Int} {A0 : Option Addr} {n0 c0 : Nat} {W : Nat → Prop} {hl : Nat → Nat} {ns' : List ND} (hB : w6.heap.size ≤ B) (ho : OwnP w7 B g c n W hl ns') (hn : ns'.length = n) (hw : ∀ k, w.heap.size ≤ k → k < w6.heap.size → W k)
    (hb : Below w6.heap.size w6 w7) (h6 : Below w.heap.size w w6) (hp : Blk w6 w.heap.size 24 (pgL A0 n0 c0 en0 tp0)) (hr : Blk w6 r 24 (pgL none 0 0 0 0)) (hwr : w.heap.size < r) (hBB : B ≤ w7.heap.size) :
    PtS w (w7.setCells w.heap.size 0 (pgL (some ⟨g, 0, none⟩) n c en tp).toList) r B g c en tp W hl ns' := by
  subst hn
  have hr6 := hr.lt
  have hp7 := hp.below hb hp.lt
  have hr7 := hr.below hb hr.lt
  have hsz := h6.size
  have hT : Tch (fun k => k = w.heap.size) w7 (w7.setCells w.heap.size 0 (pgL (some ⟨g, 0, none⟩) ns'.length c en tp).toList) := Tch.setCells (S := fun k => k = w.heap.size) rfl _ _ _ (Tch.refl _ _)
  have hs := hT.size
  exact ⟨ho.off hT (hw _ (Nat.le_refl _) (by omega)) (by omega), below_setCells (h6.trans (hb.mono hsz)) (Nat.le_refl _) (Nat.le_refl _) _ _, hp7.put _ rfl, hr7.tch hT (by omega), fun k q1 q2 => hw k q1 (by omega), by omega, hwr, by omega⟩
/-- Memory more, and nothing else. -/
theorem PtS.more {w wr w' : World} {r B g c : Nat} {en tp : Int} {W : Nat → Prop} {hl : Nat → Nat} {ns : List ND} (H : PtS w wr r B g c en tp W hl ns) (hb : Below wr.heap.size wr w') : PtS w w' r B g c en tp W hl ns :=
  ⟨H.own.below hb, H.bel.trans (hb.mono H.bel.size), H.pl.below hb H.pl.lt, H.res.below hb H.res.lt, H.wl, H.bB.1, H.bB.2.1, Nat.le_trans H.bB.2.2 hb.size⟩
/-- A node more. -/
theorem PtS.grow {w wr w' : World} {r B g g' c c' : Nat} {en tp : Int} {W : Nat → Prop} {hl : Nat → Nat} {ns : List ND} (H : PtS w wr r B g c en tp W hl ns) (hT : Tch (fun k => k = g) wr w') (hg : g' = g ∨ wr.heap.size ≤ g')
    (ho : w'.ownsRow B 42 7 (.slice (some ⟨g', 0, none⟩) (ns.length + 1) c') (ns.length + 1) (flat ns ++ nd0.cells.toList)) (hs : ns.length + 1 ≤ 1048576) :
    w'.cell? ⟨w.heap.size, 0, none⟩ = some (.slice (some ⟨g, 0, none⟩) ns.length c) ∧ w'.frozen? ⟨w.heap.size, 0, none⟩ = false ∧ ∃ W', PtS w (w'.setCell ⟨w.heap.size, 0, none⟩ (.slice (some ⟨g', 0, none⟩) (ns.length + 1) c')) r B g' c' en tp W' hl (ns ++ [nd0]) := by
  have hgB := H.own.gB
  have hbB := H.bB
  have hsz := H.bel.size
  have hszT := hT.size
  obtain ⟨g2, e, q1, q2, q3, hr⟩ := Rw.of_own ho (by omega)
  injection e with e
  injection e with e
  subst e
  rw [← flat_append] at hr
  have P := H.pl.tch hT (by omega)
  have R := H.res.tch hT (by omega)
  obtain ⟨W', O, hW⟩ := H.own.append hT hg H.bB.2.2 hr ⟨q2, q3⟩ hs rfl
  have hT2 : Tch (fun k => k = w.heap.size) w' (w'.setCell ⟨w.heap.size, 0, none⟩ (.slice (some ⟨g', 0, none⟩) (ns.length + 1) c')) := Tch.setCell (S := fun k => k = w.heap.size) (Tch.refl _ _) rfl _ _
  have hs2 := hT2.size
  have hb : Below w.heap.size w w' := H.bel.trans (hT.below hsz (by rintro k rfl; omega))
  refine ⟨P.cell 0, P.frozen 0, W', ?_, ?_, ?_, ?_, fun k p1 p2 => hW k (H.wl k p1 p2), by omega, by omega, by omega⟩
  · rw [List.length_append, List.length_singleton]
    exact O.off hT2 (hW _ (H.wl _ (Nat.le_refl _) (by omega))) (by omega)
  · exact hb.setCell (Nat.le_refl _) _
  · have := P.set_ 0 (.slice (some ⟨g', 0, none⟩) (ns.length + 1) c')
    rw [List.length_append, List.length_singleton]
    exact this
  · exact R.tch hT2 (by omega)
/-- A node is put, with new lists and a new vector. -/
theorem PtS.node {w wr w' : World} {r B g c : Nat} {en tp : Int} {W : Nat → Prop} {hl : Nat → Nat} {ns : List ND} (H : PtS w wr r B g c en tp W hl ns) (hb : Below wr.heap.size wr w') {i : Nat} (hi : i < ns.length) {d : ND} {h : Nat}
    (hh : wr.heap.size ≤ h) (hd : NdS w' (fun k => k < w'.heap.size ∧ ((k < wr.heap.size ∧ ¬ W k) ∨ (wr.heap.size ≤ k ∧ k ≠ h))) d) (hL : d.LA = some ⟨h, 0, none⟩ ∧ d.ln ≤ d.lc ∧ Rw w' h 43 (d.lc * 1) (d.ls.map IS.v)) :
    w'.there g (i * 7) 7 ∧ ∃ W' hl', PtS w (w'.setCells g (i * 7) d.cells.toList) r B g c en tp W' hl' (ns.set i d) := by
  have hgB := H.own.gB
  have hbB := H.bB
  have hsz := H.bel.size
  have hszb := hb.size
  have hgl := H.own.row.lt
  have Rg : Rw w' g 42 (c * 7) (flat ns) := H.own.row.at_ (hb.block _ hgl)
  have hT : Tch (fun k => k = g) wr (w'.setCells g (i * 7) d.cells.toList) := Tch.setCells (S := fun k => k = g) rfl _ _ _ (Tch.of_below hb)
  have hT2 : Tch (fun k => k = g) w' (w'.setCells g (i * 7) d.cells.toList) := Tch.setCells (S := fun k => k = g) rfl _ _ _ (Tch.refl _ _)
  have hs2 := hT2.size
  have hx := getElem_nAt hi
  refine ⟨fun j hj => ⟨?_, Rg.frozen _⟩, ?_⟩
  · rw [Rg.cell (flat_get2 hx j hj |>.trans (List.getElem?_eq_getElem (by rw [cells_len]; exact hj)))]; rfl
  obtain ⟨W', hl', O, hW⟩ := H.own.step (w' := w'.setCells g (i * 7) d.cells.toList) hT (i := i) (d' := d) (m' := ns.length) hi (.inl rfl) hi H.bB.2.2 (by have := Rg.setCells d.cells.toList (i * 7); rw [flat_setL hi] at this; exact this)
    ((hd.tch hT2 fun b hb => ⟨hb.1, by
      rcases hb.2 with q | q
      · intro e; exact q.2 (e ▸ H.own.wg)
      · omega⟩).mono fun b q => ⟨by omega, by
      rcases q.2 with q | q
      · exact .inl q
      · exact .inr ⟨q.1, by rw [hL.1]; intro e; injection e with e; injection e with e; exact q.2 e.symm⟩⟩)
    (fun _ => by
      obtain ⟨e1, e2, e3⟩ := hL
      exact ⟨h, e1, hh, e2, e3.at_ (hT2.block _ e3.lt (by omega))⟩)
  refine ⟨W', hl', by rw [List.length_set]; exact O, below_setCells (H.bel.trans (hb.mono hsz)) (Nat.le_refl _) (by omega) _ _, ?_, (H.res.below hb H.res.lt).tch hT2 (by omega), fun k p1 p2 => hW k (H.wl k p1 p2), hbB.1, hbB.2.1, by omega⟩
  rw [List.length_set]
  exact (H.pl.below hb H.pl.lt).tch hT2 (by omega)
theorem PtS.next {w wr : World} {r B g c : Nat} {en tp : Int} {W : Nat → Prop} {hl : Nat → Nat} {ns : List ND} (H : PtS w wr r B g c en tp W hl ns) {i : Nat} (hi : i < ns.length) {v : Int} (hv : (Lit.int .i64 v).wf = true) :
    wr.cell? ⟨g, i * 7 + 5, none⟩ = some (.int .i64 (nAt ns i).next) ∧ wr.frozen? ⟨g, i * 7 + 5, none⟩ = false ∧ PtS w (wr.setCell ⟨g, i * 7 + 5, none⟩ (.int .i64 v)) r B g c en tp W hl (ns.set i { nAt ns i with next := v }) := by
  obtain ⟨h1, h2, h3⟩ := H.own.setNext hi hv
  have hgB := H.own.gB
  have hbB := H.bB
  have hT : Tch (fun k => k = g) wr (wr.setCell ⟨g, i * 7 + 5, none⟩ (.int .i64 v)) := Tch.setCell (S := fun k => k = g) (Tch.refl _ _) rfl _ _
  have hs := hT.size
  refine ⟨h1, h2, by rw [List.length_set]; exact h3, H.bel.setCell (by show w.heap.size ≤ g; omega) _, by rw [List.length_set]; exact H.pl.tch hT (by omega), H.res.tch hT (by omega), H.wl, hbB.1, hbB.2.1, by omega⟩
theorem PtS.prev {w wr : World} {r B g c : Nat} {en tp : Int} {W : Nat → Prop} {hl : Nat → Nat} {ns : List ND} (H : PtS w wr r B g c en tp W hl ns) {i : Nat} (hi : i < ns.length) {v : Int} (hv : (Lit.int .i64 v).wf = true) :
    wr.cell? ⟨g, i * 7 + 6, none⟩ = some (.int .i64 (nAt ns i).prev) ∧ wr.frozen? ⟨g, i * 7 + 6, none⟩ = false ∧ PtS w (wr.setCell ⟨g, i * 7 + 6, none⟩ (.int .i64 v)) r B g c en tp W hl (ns.set i { nAt ns i with prev := v }) := by
  obtain ⟨h1, h2, h3⟩ := H.own.setPrev hi hv
  have hgB := H.own.gB
  have hbB := H.bB
  have hT : Tch (fun k => k = g) wr (wr.setCell ⟨g, i * 7 + 6, none⟩ (.int .i64 v)) := Tch.setCell (S := fun k => k = g) (Tch.refl _ _) rfl _ _
  have hs := hT.size
  refine ⟨h1, h2, by rw [List.length_set]; exact h3, H.bel.setCell (by show w.heap.size ≤ g; omega) _, by rw [List.length_set]; exact H.pl.tch hT (by omega), H.res.tch hT (by omega), H.wl, hbB.1, hbB.2.1, by omega⟩
/-- A block that is neither the plane's nor what is told is written. -/
theorem PtS.off {w wr w' : World} {r B g c x : Nat} {en tp : Int} {W : Nat → Prop} {hl : Nat → Nat} {ns : List ND} (H : PtS w wr r B g c en tp W hl ns) (hT : Tch (fun k => k = x) wr w') (hx : w.heap.size < x ∧ x < r) : PtS w w' r B g c en tp W hl ns := by
  have hbB := H.bB
  have hs := hT.size
  have hsz := H.bel.size
  exact ⟨H.own.off hT (H.wl x (by omega) (by omega)) (by omega), H.bel.trans (hT.below hsz (by rintro k rfl; omega)), H.pl.tch hT (by omega), H.res.tch hT (by omega), H.wl, hbB.1, hbB.2.1, by omega⟩
/-- What is told is the plane. -/
theorem PtS.fin {w wr : World} {r B g c : Nat} {en tp en0 tp0 : Int} {W : Nat → Prop} {hl : Nat → Nat} {ns : List ND} (H : PtS w wr r B g c en0 tp0 W hl ns) (hr : Blk wr r 24 (pgL none 0 0 0 0)) :
    Blk (wr.setCells r 0 (pgL (some ⟨g, 0, none⟩) ns.length c en tp).toList) r 24 (pgL (some ⟨g, 0, none⟩) ns.length c en tp) ∧
    PgAt (wr.setCells r 0 (pgL (some ⟨g, 0, none⟩) ns.length c en tp).toList) (wr.setCells r 0 (pgL (some ⟨g, 0, none⟩) ns.length c en tp).toList).heap.size (some ⟨g, 0, none⟩) ns.length c ns ∧
    Below w.heap.size w (wr.setCells r 0 (pgL (some ⟨g, 0, none⟩) ns.length c en tp).toList) := by
  have hbB := H.bB
  have hT : Tch (fun k => k = r) wr (wr.setCells r 0 (pgL (some ⟨g, 0, none⟩) ns.length c en tp).toList) := Tch.setCells (S := fun k => k = r) rfl _ _ _ (Tch.refl _ _)
  exact ⟨hr.put _ rfl, (H.own.off hT (H.wl r (by omega) (Nat.le_refl _)) hbB.1).pg, below_setCells H.bel (Nat.le_refl _) (by omega) _ _⟩
/-- The error that Put tells. -/
def putW (ns : List ND) (links en tp level id : Int) : Int := if chkB ns links en tp then (if level < 0 ∨ 7 < level then 6 else if hasId ns id then 2 else if (liveI ns).length = 4096 then 4 else 0) else 7
def putND (ns : List ND) (id : Int) (vn : Nat) (vxs : List Int) (tags level : Int) : ND :=
  ⟨id, ⟨none, vn, vn, vxs⟩, tags, level, none, level.toNat + 1, level.toNat + 1, List.replicate (level.toNat + 1) ⟨none, 0, 0, []⟩, (nAt ns 0).next, 0⟩
def growN (ns : List ND) (slot : Nat) : List ND := if slot = ns.length then ns ++ [nd0] else ns
def linkN (l : List ND) (h slot : Nat) : List ND := (l.set h { nAt l h with prev := slot }).set 0 { nAt (l.set h { nAt l h with prev := slot }) 0 with next := slot }
def putSt (ns : List ND) (slot : Nat) (d : ND) : List ND := linkN ((growN ns slot).set slot d) (nAt ns 0).next.toNat slot
def PutR (ns : List ND) (links en tp level id : Int) (vn : Nat) (vxs : List Int) (tags : Int) (w : World) (e : Ending) (w' : World) : Prop :=
  (putW ns links en tp level id ≠ 0 ∧ e = .returned (.tuple #[.agg (pgL none 0 0 0 0), .int .i64 0, .int .i64 (putW ns links en tp level id)]) ∧ Below w.heap.size w w') ∨
  (putW ns links en tp level id = 0 ∧ ∃ g n c ns', e = .returned (.tuple #[.agg (pgL (some ⟨g, 0, none⟩) n c en tp), .int .i64 (slotI ns), .int .i64 0]) ∧ PgAt w' w'.heap.size (some ⟨g, 0, none⟩) n c ns' ∧ Eqv (putSt ns (slotI ns) (putND ns id vn vxs tags level)) ns' ∧ Below w.heap.size w w')
theorem PutR.no {ns : List ND} {links en tp level id : Int} {vn : Nat} {vxs : List Int} {tags y : Int} {w w' : World} (h : putW ns links en tp level id = y) (hy : y ≠ 0) (hb : Below w.heap.size w w') : PutR ns links en tp level id vn vxs tags w (.returned (.tuple #[.agg (pgL none 0 0 0 0), .int .i64 0, .int .i64 y])) w' := by
  subst h; exact .inl ⟨hy, rfl, hb⟩
theorem lvI_lt (ns : List ND) : ∀ k, 1 ≤ k → (lvI ns k).length + 1 ≤ k
  | 0, h => by omega
  | 1, _ => by rw [lvI_one]; simp
  | k + 2, _ => by
    have := lvI_lt ns (k + 1) (by omega)
    rw [lvI_succ, List.length_append]
    have h2 : (if thN ns (k + 1) then [((k + 1 : Nat) : Int)] else []).length ≤ 1 := by split <;> simp
    omega
theorem live_lt {ns : List ND} (h : 1 ≤ ns.length) : (liveI ns).length + 1 ≤ ns.length := lvI_lt ns _ h
theorem slot_le {ns : List ND} (h : 1 ≤ ns.length) : 1 ≤ slotI ns ∧ slotI ns ≤ ns.length := by
  have h1 := slotJ_le ns (liveI ns).length
  have h2 := live_lt h
  exact ⟨h1.1, by unfold slotI; omega⟩
theorem chk_parts {ns : List ND} {links en tp : Int} (h : chkB ns links en tp = true) : 1 ≤ ns.length ∧ ns.length ≤ 4097 ∧ ringB ns = true ∧ (liveI ns).all (fun x => nodeB ns x.toNat links) = true ∧ entB ns en tp = true := by
  unfold chkB at h
  simp only [Bool.and_eq_true, decide_eq_true_eq] at h
  exact ⟨h.1.1.1.1, h.1.1.1.2, h.1.1.2, h.1.2, h.2⟩
theorem ring_ok {ns : List ND} (h : ringB ns = true) {i : Nat} (hi : i < ns.length) : rOk ns i = true := by
  unfold ringB at h
  rw [Bool.and_eq_true, List.all_eq_true] at h
  exact h.1 i (List.mem_range.2 hi)
theorem chk_head {ns : List ND} {links en tp : Int} (h : chkB ns links en tp = true) : ∃ k : Nat, (nAt ns 0).next = k ∧ k < ns.length := by
  obtain ⟨h1, _, h3, _⟩ := chk_parts h
  have := ring_ok h3 (i := 0) (by omega)
  unfold rOk at this
  rw [if_neg (by simp), Bool.and_eq_true, Bool.and_eq_true] at this
  exact place_nat (by omega) this.1.1
theorem any_bad_ig {xs : List Int} {p : Int → Bool} {k : Nat} (hk : k < xs.length) (h : p (ig xs k) = true) : xs.any p = true := List.any_eq_true.2 ⟨_, ig_mem hk, h⟩
theorem any_all_ig {xs : List Int} {p : Int → Bool} (h : ∀ k, k < xs.length → p (ig xs k) = false) : xs.any p = false := by
  rw [List.any_eq_false]
  intro x hx
  obtain ⟨k, hk, rfl⟩ := List.getElem_of_mem hx
  have := h k hk
  unfold ig at this
  rw [List.getD_eq_getElem?_getD, List.getElem?_eq_getElem hk] at this
  simpa using this
theorem norm_prev {d d' : ND} (h : d.norm = d'.norm) (v : Int) : ({ d with prev := v } : ND).norm = ({ d' with prev := v } : ND).norm := by
  have e := congrArg (fun x : ND => ({ x with prev := v } : ND)) h
  exact e
theorem norm_next {d d' : ND} (h : d.norm = d'.norm) (v : Int) : ({ d with next := v } : ND).norm = ({ d' with next := v } : ND).norm := by
  have e := congrArg (fun x : ND => ({ x with next := v } : ND)) h
  exact e
theorem linkN_eqv {l l' : List ND} (h : Eqv l l') (k slot : Nat) : Eqv (linkN l k slot) (linkN l' k slot) := by
  unfold linkN
  have h1 := h.set k (norm_prev (h.nAt k) (slot : Int))
  exact h1.set 0 (norm_next (h1.nAt 0) (slot : Int))
theorem linkN_len (l : List ND) (k slot : Nat) : (linkN l k slot).length = l.length := by unfold linkN; rw [List.length_set, List.length_set]
theorem yieldsIf_addR {P : Program} {ops : Array Oper} {S : World → Prop} {o : Oper} {a : Act} {t t' : TypeId} {m n r : Int} (hw : Region.wanted o (yielded ops a.tmps) = true) (x y : Operand) (ho : o.op = .binOp .add t x y t') (hx : a.eval x = .int .i64 m) (hy : a.eval y = .int .i64 n) (hr : IntKind.i64.wrap (m + n) = r) : YieldsIf P ops S o (.int .i64 r) a := by
  refine .inl ⟨hw, fun w _ => ?_⟩
  unfold execOp
  simp only [ho, hx, hy]
  simp [go_sem, ← hr]
theorem make_lists (n : Nat) (hn : n ≤ 1048576) (w : World) : (Instr.makeSlice 40 (.int .i64 (n : Int)) (.int .i64 (n : Int))).run Try.prog w = .ok (.slice (some ⟨w.heap.size, 0, none⟩) n n) (w.alloc (.cells (madeCells #[.slice none 0 0] n) 43)) := by
  obtain ⟨i, hi, hz, hz1, hz2⟩ := info_parts info_ints
  have hr := run_make (P := Try.prog) w 40 43 i _ Try.underlying40 hi hz .i64 .i64 n n (by omega) (Int.le_refl _) (by rw [hz2]; omega) (by omega)
  simp only [Int.toNat_natCast, hz1, Nat.mul_one] at hr
  exact hr
theorem made_rw (w : World) (n : Nat) : Rw (w.alloc (.cells (madeCells #[.slice none 0 0] n) 43)) w.heap.size 43 (n * 1) ((List.replicate n (⟨none, 0, 0, []⟩ : IS)).map IS.v) := by
  have e : (madeCells #[.slice none 0 0] n).toList = List.replicate n (.slice none 0 0) := by
    refine List.ext_getElem (by simp [madeCells]) fun i h1 h2 => ?_
    simp [madeCells, Nat.mod_one]
  refine ⟨_, heap_alloc_new w _, by simp [madeCells], ?_⟩
  rw [e, List.map_replicate, List.length_replicate, List.take_of_length_le (by simp)]; rfl
theorem exec_make {w w' : World} {o : Oper} {a : Act} {ty : TypeId} {l c v : Value} {x y : Operand} (ho : o.op = .makeSlice ty x y) (hx : a.eval x = l) (hy : a.eval y = c) (hr : (Instr.makeSlice ty l c).run Try.prog w = .ok v w') : (execOp a.eval o).run Try.prog w = .ok (.value v) w' := by
  unfold execOp
  simp only [ho, hx, hy, Sem.run_bind, hr, Result.andThen_ok]
  rfl
/-- .. of a vector of the call's own. -/
theorem vec_own {w : World} {B : Nat} {A : Option Addr} {n c : Nat} {xs : List Int} (ho : w.ownsRow B 21 1 (.slice A n c) n (xs.map (.int .i32))) (hn : n ≤ 1048576) (hw : ∀ x ∈ xs, (Lit.int .i32 x).wf = true) : IS.AtS w (fun k => B ≤ k ∧ k < w.heap.size) .i32 ⟨A, n, c, xs⟩ := by
  refine ⟨fun e => ?_, hn, ?_, hw⟩
  · rcases ho.2 with ⟨q, q0⟩ | ⟨x, cap, cur, q, _⟩
    · injection q with _ q2 q3; exact ⟨q2, q3⟩
    · injection q with q1 _ _; exact absurd (e.symm.trans q1) (by simp)
  · refine ⟨by simpa using ho.1, fun h0 => ?_⟩
    obtain ⟨x, e, hx, _, _, hr⟩ := Rw.of_own ho h0
    exact ⟨x, 0, e, ⟨hx, hr.lt⟩, fun q u hu => by rw [Nat.zero_add]; exact hr.cell hu⟩
theorem itemT : (Try.prog.info? 39).map (·.size) = some 3 := by kernel_rfl
theorem item_load {w : World} {b : Nat} {id tags : Int} {vA : Option Addr} {vn vc : Nat} (h : Blk w b 39 (itL id vA vn vc tags)) : (Instr.loadAt 39 (.pointer (some ⟨b, 0, none⟩))).run Try.prog w = .ok (.agg (itL id vA vn vc tags)) w := row_load h Try.underlying39 rfl itemT
theorem itL_lit (id : Int) (vA : Option Addr) (vn vc : Nat) (tags : Int) : itL id vA vn vc tags = #[.int .u64 id, .slice vA vn vc, .int .u64 tags] := rfl
end Go.Proofs.Ytbpcddimnbjoeaa
