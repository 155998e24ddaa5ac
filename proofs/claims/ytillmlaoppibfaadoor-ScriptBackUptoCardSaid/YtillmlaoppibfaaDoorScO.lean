/- Scripts, plain law: there and back. -/
import Derived.Test.YtillmlaoppibfaaDoorScH
import Derived.Test.YtillmlaoppibfaaDoorScJ
import Derived.Test.YtillmlaoppibfaaDoorScK
namespace Go.Proofs.YtillmlaoppibfaaDoor
open Go.RowKit
theorem isP_pick {wk : Int} {a : SAct} (h : isP wk a = true) : a = pickA wk := by
  unfold isP at h
  rw [Bool.and_eq_true, plainB_iff] at h
  have hw := beq_iff_eq.1 h.1
  obtain ⟨w, k, i, v, t, q, e, d⟩ := a
  have := h.2
  simp only [pickA, SAct.mk.injEq, true_and] at this hw ⊢
  exact ⟨hw, this⟩
theorem isP_self (wk : Int) : isP wk (pickA wk) = true := by
  unfold isP
  rw [Bool.and_eq_true, plainB_iff]
  exact ⟨beq_iff_eq.2 rfl, rfl⟩
theorem takeW_all {α : Type} (p : α → Bool) : ∀ (l : List α), ∀ b ∈ l.takeWhile p, p b = true
  | [], b, h => by simp at h
  | a :: l, b, h => by
    rw [List.takeWhile_cons] at h
    split at h
    · rename_i ha
      rcases List.mem_cons.1 h with rfl | h
      · exact ha
      · exact takeW_all p l b h
    · simp at h
theorem drop_takeW {α : Type} (p : α → Bool) : ∀ (l : List α), l.drop (l.takeWhile p).length = l.dropWhile p
  | [] => rfl
  | a :: l => by
    rw [List.takeWhile_cons, List.dropWhile_cons]
    split
    · exact drop_takeW p l
    · rfl
theorem run_take (a : SAct) (r : List SAct) : a :: r = List.replicate (runN (a :: r)) (pickA a.wk) ++ (a :: r).drop (runN (a :: r)) := by
  have h1 : runN (a :: r) = ((a :: r).takeWhile (isP a.wk)).length := rfl
  have h2 : (a :: r).takeWhile (isP a.wk) = List.replicate (runN (a :: r)) (pickA a.wk) := by
    rw [h1]
    refine List.eq_replicate_iff.2 ⟨rfl, fun b hb => isP_pick ?_⟩
    exact takeW_all _ _ b hb
  have h3 := List.takeWhile_append_dropWhile (p := isP a.wk) (l := a :: r)
  have h4 : (a :: r).drop (runN (a :: r)) = (a :: r).dropWhile (isP a.wk) := by
    rw [h1]
    exact drop_takeW _ _
  rw [h4, ← h2, h3]
theorem expand_cons (g : SAct × Nat) (gs : List (SAct × Nat)) : expand (g :: gs) = List.replicate g.2 g.1 ++ expand gs := by unfold expand; simp
theorem expand_grp : ∀ (f : Nat) (l : List SAct), l.length < f → expand (grp f l) = l
  | 0, l, h => absurd h (by omega)
  | f + 1, [], _ => rfl
  | f + 1, a :: r, h => by
    unfold grp
    split
    · rw [expand_cons, expand_grp f r (by simpa using h)]
      rfl
    · rename_i h0
      rw [expand_cons, expand_grp f _ (by rw [List.length_drop]; simp only [List.length_cons] at h ⊢; omega)]
      exact (run_take a r).symm
/-- Lines that may stand so, behind one with pk. -/
def WFg : Int → List (SAct × Nat) → Prop
  | _, [] => True
  | pk, g :: gs => GOK g ∧ ¬ (0 ≤ pkOf g.1 ∧ pkOf g.1 = pk) ∧ WFg (pkOf g.1) gs
theorem form_kd {a : SAct} (h : formB a = true) : 1 ≤ a.kd ∧ a.kd ≤ 6 := by
  simp only [formB, decide_eq_true_eq] at h
  omega
theorem form_isP {a : SAct} {wk : Int} (h : formB a = true) : isP wk a = false := by
  have := form_kd h
  cases q : isP wk a with
  | false => rfl
  | true => rw [isP_pick q] at this; simp [pickA] at this
theorem GOK.pos {g : SAct × Nat} (h : GOK g) : 1 ≤ g.2 := by
  rcases h.2.2.2 with q | q
  · exact q.2.1
  · omega
theorem take_run {l : List SAct} {wk : Int} {n : Nat} (hn : 1 ≤ n) (h : ∀ a, l.head? = some a → isP wk a = false) : runN (List.replicate n (pickA wk) ++ l) = n := by
  refine runN_eq (a0 := pickA wk) (by rw [List.getElem?_append_left (by rw [List.length_replicate]; omega), List.getElem?_replicate, if_pos (by omega)]) (by rw [List.length_append, List.length_replicate]; omega) (fun j a hj ha => ?_) (fun a ha => ?_)
  · rw [List.getElem?_append_left (by rw [List.length_replicate]; exact hj), List.getElem?_replicate, if_pos hj] at ha
    injection ha with ha
    rw [← ha]
    exact isP_self wk
  · rw [List.getElem?_append_right (by rw [List.length_replicate]; omega), List.length_replicate, Nat.sub_self] at ha
    exact h a (by rw [List.head?_eq_getElem?]; exact ha)
theorem grp_expand : ∀ (gs : List (SAct × Nat)) (pk : Int) (f : Nat), WFg pk gs → (expand gs).length < f → grp f (expand gs) = gs
  | [], _, f, _, h => by
    cases f with
    | zero => exact absurd h (by omega)
    | succ f => rfl
  | g :: gs, pk, f, ⟨hg, hp, hw⟩, h => by
    rw [expand_cons] at h ⊢
    have hpos := hg.pos
    rcases hg.2.2.2 with ⟨e, h1, h2⟩ | ⟨e, hf⟩
    · have hrun : runN (List.replicate g.2 g.1 ++ expand gs) = g.2 := by
        rw [e]
        refine take_run h1 (fun a ha => ?_)
        cases gs with
        | nil => simp [expand] at ha
        | cons g' gs' =>
          obtain ⟨hg', hp', _⟩ := hw
          have hpos' := hg'.pos
          have : a = g'.1 := by
            rw [expand_cons, List.head?_eq_getElem?, List.getElem?_append_left (by rw [List.length_replicate]; omega), List.getElem?_replicate, if_pos (by omega)] at ha
            injection ha with ha
            exact ha.symm
          rw [this]
          rcases hg'.2.2.2 with ⟨e', _⟩ | ⟨_, hf'⟩
          · cases q : isP g.1.wk g'.1 with
            | false => rfl
            | true =>
              have q2 := isP_pick q
              exfalso
              apply hp'
              have hk : pkOf g'.1 = g.1.wk := by rw [q2]; rfl
              have hk2 : pkOf g.1 = g.1.wk := by rw [e]; rfl
              rw [hk, hk2]
              exact ⟨hg.1, rfl⟩
          · exact form_isP hf'
      obtain ⟨a, r, hl⟩ : ∃ a r, List.replicate g.2 g.1 ++ expand gs = a :: r := by
        obtain ⟨m, hm⟩ : ∃ m, g.2 = m + 1 := ⟨g.2 - 1, by omega⟩
        rw [hm, List.replicate_succ, List.cons_append]
        exact ⟨_, _, rfl⟩
      have ha : a = g.1 := by
        obtain ⟨m, hm⟩ : ∃ m, g.2 = m + 1 := ⟨g.2 - 1, by omega⟩
        rw [hm, List.replicate_succ, List.cons_append] at hl
        injection hl with hl _
        exact hl.symm
      have hd : (a :: r).drop g.2 = expand gs := by rw [← hl, List.drop_left' (by rw [List.length_replicate])]
      have hlen : (expand gs).length < f - 1 := by
        rw [List.length_append, List.length_replicate] at h
        omega
      rw [hl] at hrun h ⊢
      obtain ⟨f', rfl⟩ : ∃ f', f = f' + 1 := ⟨f - 1, by omega⟩
      rw [grp, if_neg (by rw [hrun]; omega), hrun, hd, grp_expand gs _ f' hw (by omega), ha, ← e]
    · have hl : List.replicate g.2 g.1 ++ expand gs = g.1 :: expand gs := by rw [e]; rfl
      rw [hl] at h ⊢
      have hrun : runN (g.1 :: expand gs) = 0 := by
        show ((g.1 :: expand gs).takeWhile (isP g.1.wk)).length = 0
        rw [List.takeWhile_cons, form_isP hf]
        rfl
      obtain ⟨f', rfl⟩ : ∃ f', f = f' + 1 := ⟨f - 1, by omega⟩
      rw [grp, if_pos hrun, grp_expand gs _ f' hw (by simp only [List.length_cons] at h; omega), ← e]
theorem drop_run {a : SAct} {r : List SAct} {b : SAct} (h : ((a :: r).drop (runN (a :: r))).head? = some b) : isP a.wk b = false := by
  have h4 : (a :: r).drop (runN (a :: r)) = (a :: r).dropWhile (isP a.wk) := drop_takeW _ _
  rw [h4] at h
  have := List.head?_dropWhile_not (isP a.wk) (a :: r)
  rw [h] at this
  simpa using this
theorem grp_wf : ∀ (f : Nat) (l : List SAct) (pk : Int), l.length < f → l.length ≤ 4096 → (∀ a ∈ l, a.Rng) → (grp f l).all gokB = true → (0 ≤ pk → ∀ a, l.head? = some a → isP pk a = false) → WFg pk (grp f l)
  | 0, l, _, h, _, _, _, _ => absurd h (by omega)
  | f + 1, [], _, _, _, _, _, _ => trivial
  | f + 1, a :: r, pk, h, h4, hr, hg, hp => by
    unfold grp at hg ⊢
    simp only [List.length_cons] at h h4
    split
    · rename_i h0
      rw [if_pos h0, List.all_cons, Bool.and_eq_true] at hg
      have hf : formB a = true ∧ 0 ≤ a.wk ∧ a.wk ≤ 64 := by
        have := hg.1
        unfold gokB at this
        rw [decide_eq_false (show ¬ (a = pickA a.wk ∧ 1 ≤ 1) from fun q => isP_not (runN_zero h0) q.1)] at this
        simp at this
        exact ⟨this.2, this.1⟩
      have hk := form_kd hf.1
      have hpk : pkOf a = -1 := by unfold pkOf; rw [if_neg (by omega)]
      refine ⟨⟨hf.2.1, hf.2.2, hr a (by simp), .inr ⟨rfl, hf.1⟩⟩, ?_, ?_⟩
      · show ¬ (0 ≤ pkOf a ∧ _)
        rw [hpk]; omega
      · show WFg (pkOf a) _
        rw [hpk]
        exact grp_wf f r (-1) (by omega) (by omega) (fun b hb => hr b (by simp [hb])) hg.2 (fun q => absurd q (by decide))
    · rename_i h0
      rw [if_neg h0, List.all_cons, Bool.and_eq_true] at hg
      have hw : 0 ≤ a.wk ∧ a.wk ≤ 64 := by
        have := hg.1
        unfold gokB at this
        rw [Bool.and_eq_true, decide_eq_true_eq] at this
        exact this.1
      have hle := runN_le (a :: r)
      simp only [List.length_cons] at hle
      have hpk : pkOf (pickA a.wk) = a.wk := rfl
      refine ⟨⟨hw.1, hw.2, ⟨by show 0 ≤ _; omega, by show 0 ≤ _; omega, by show 0 ≤ _; omega, by simp [pickA]⟩, .inl ⟨rfl, by show 1 ≤ runN (a :: r); omega, by show runN (a :: r) ≤ 4096; omega⟩⟩, ?_, ?_⟩
      · show ¬ (0 ≤ pkOf (pickA a.wk) ∧ pkOf (pickA a.wk) = pk)
        rw [hpk]
        rintro ⟨q1, q2⟩
        have := hp (by omega) a rfl
        rw [← q2] at this
        exact h0 (by show ((a :: r).takeWhile (isP a.wk)).length = 0; rw [List.takeWhile_cons, this]; rfl)
      · show WFg (pkOf (pickA a.wk)) _
        rw [hpk]
        exact grp_wf f _ a.wk (by rw [List.length_drop, List.length_cons]; omega) (by rw [List.length_drop, List.length_cons]; omega) (fun b hb => hr b (List.mem_of_mem_drop hb)) hg.2 (fun _ b hb => drop_run hb)
theorem line_10 (g : SAct × Nat) : (10 : UInt8) ∉ lineN g := by
  rw [line_words]
  exact join_wd (words_wd g)
theorem textG_cons (g : SAct × Nat) (gs : List (SAct × Nat)) : textG (g :: gs) = lineN g ++ 10 :: textG gs := by unfold textG; simp
/-- What is written is read. -/
theorem prs_text : ∀ (gs : List (SAct × Nat)) (f : Nat) (pk : Int) (cnt no : Nat), WFg pk gs → cnt + (expand gs).length ≤ 4096 → gs.length < f → prsL f pk cnt no (textG gs) = .inr gs
  | [], f, pk, cnt, no, _, _, h => by
    cases f with
    | zero => exact absurd h (by omega)
    | succ f => rw [prsL]; rfl
  | g :: gs, f, pk, cnt, no, ⟨hg, hp, hw⟩, hc, h => by
    obtain ⟨f', rfl⟩ : ∃ f', f = f' + 1 := ⟨f - 1, by omega⟩
    rw [expand_cons, List.length_append, List.length_replicate] at hc
    have hcut := cut_line 10 (lineN g) (textG gs) (line_10 g)
    have hac : actsO (splitW (lineN g)) = some g := by
      rw [line_words, split_words (words_wd g) (words_ne g)]
      exact acts_words hg
    rw [prsL, textG_cons, if_neg (by simp), hcut]
    dsimp only
    rw [if_neg (by decide), hac]
    dsimp only
    rw [if_neg hp, if_neg (by omega), prs_text gs f' (pkOf g.1) (cnt + g.2) (no + 1) hw (by omega) (by simp only [List.length_cons] at h; omega)]
/-- What is read is written. -/
theorem text_prs : ∀ (f : Nat) (pk : Int) (cnt no : Nat) (s : List UInt8) (gs : List (SAct × Nat)), prsL f pk cnt no s = .inr gs → cnt ≤ 4096 → WFg pk gs ∧ cnt + (expand gs).length ≤ 4096 ∧ s = textG gs
  | 0, pk, cnt, no, s, gs, h, _ => by cases h
  | f + 1, pk, cnt, no, s, gs, h, hcnt => by
    rw [prsL] at h
    split at h
    · rename_i hs
      injection h with h
      subst h
      exact ⟨trivial, by simpa [expand] using hcnt, hs⟩
    · split at h
      · cases h
      · rename_i hen
        have hen : (Lib.cut s [10]).2.2 = true := by cases q : (Lib.cut s [10]).2.2 with | true => rfl | false => exact absurd q hen
        split at h
        · cases h
        · rename_i g hac
          split at h
          · cases h
          · rename_i hp
            split at h
            · cases h
            · rename_i hc
              split at h
              · cases h
              · rename_i gs' hrec
                injection h with h
                subst h
                obtain ⟨h1, h2, h3⟩ := text_prs f (pkOf g.1) (cnt + g.2) (no + 1) _ gs' hrec (by omega)
                have hw := words_acts hac
                refine ⟨⟨hw.1, hp, h1⟩, by rw [expand_cons, List.length_append, List.length_replicate]; omega, ?_⟩
                rw [textG_cons, ← h3, line_words, hw.2, join_split]
                exact cut_parts hen
theorem hdr_words (c : SCfg) : hdrN c = joinW 32 [storeW, Lib.decDigits c.dim.toNat, Lib.decDigits c.cap.toNat, Lib.decDigits c.links.toNat, Lib.decDigits c.ef.toNat, Lib.decDigits c.wks.toNat] := by
  unfold hdrN
  rw [joinW_cons, tailW_words]
  rfl
theorem hdr_wd (c : SCfg) : ∀ w ∈ [storeW, Lib.decDigits c.dim.toNat, Lib.decDigits c.cap.toNat, Lib.decDigits c.links.toNat, Lib.decDigits c.ef.toNat, Lib.decDigits c.wks.toNat], Wd w := by
  intro w hw
  simp only [List.mem_cons, List.not_mem_nil, or_false] at hw
  rcases hw with rfl | rfl | rfl | rfl | rfl | rfl
  · unfold Wd; decide
  all_goals exact dec_wd _
theorem chk_rng {c : SCfg} (h : chkB c = true) : (1 ≤ c.dim ∧ c.dim ≤ 4096) ∧ (1 ≤ c.cap ∧ c.cap ≤ 4096) ∧ (1 ≤ c.links ∧ c.links ≤ 32) ∧ (1 ≤ c.ef ∧ c.ef ≤ 4096) ∧ (1 ≤ c.wks ∧ c.wks ≤ 64) := by
  simp only [chkB, Bool.and_eq_true, decide_eq_true_eq] at h
  exact ⟨h.1.1.1.1, h.1.1.1.2, h.1.1.2, h.1.2, h.2⟩
theorem cfg_hdr {c : SCfg} (h : chkB c = true) : cfgO (splitW (hdrN c)) = some c := by
  have hr := chk_rng h
  rw [hdr_words, split_words (hdr_wd c) (by simp)]
  unfold cfgO c53
  simp only [List.tail_cons, List.headD_cons]
  rw [numO_dec (by omega) (by omega), numO_dec (by omega) (by omega), numO_dec (by omega) (by omega), numO_dec (by omega) (by omega), numO_dec (by omega) (by omega)]
  dsimp only
  rw [if_pos (by simp)]
  obtain ⟨d, p, k, f, x⟩ := c
  simp only at hr ⊢
  congr 2 <;> omega
theorem hdr_cfg {l : List UInt8} {d : SCfg} (h : cfgO (splitW l) = some d) : hdrN d = l := by
  have hj := join_split l
  obtain ⟨ws, hws⟩ : ∃ ws, splitW l = ws := ⟨_, rfl⟩
  rw [hws] at h hj
  unfold cfgO at h
  split at h
  · rename_i a b c e f q1 q2 q3 q4 q5
    split at h
    · rename_i hw
      injection h with h
      subst h
      have p1 := dec_cons (numO_some q1).2
      have p2 := dec_cons (numO_some q2).2
      have p3 := dec_cons (numO_some q3).2
      have p4 := dec_cons (numO_some q4).2
      have p5 := dec_cons (numO_some q5).2
      have p0 : ws = storeW :: ws.tail := by
        cases ws with
        | nil => rw [List.tail_nil] at p1; cases p1
        | cons x r => rw [← hw.2]; rfl
      rw [hdr_words, ← hj, p0, p1, p2, p3, p4, p5, hw.1]
      rfl
    · cases h
  · cases h
/-- THERE AND BACK: a script is read from its text. -/
theorem back_text {c : SCfg} {l : List SAct} {t : List UInt8} (hr : ∀ a ∈ l, a.Rng) (h : txtO c l = (t, 0)) : ∃ gs, prsO t = .inr (c, gs) ∧ expand gs = l := by
  unfold txtO at h
  split at h
  · simp at h
  · rename_i hc
    split at h
    · simp at h
    · rename_i hl
      split at h
      · simp at h
      · rename_i hg
        split at h
        · simp at h
        · rename_i hlen
          injection h with h _
          subst h
          have hc : chkB c = true := by cases q : chkB c with | true => rfl | false => exact absurd q hc
          have hg : (grp (l.length + 1) l).all gokB = true := by cases q : (grp (l.length + 1) l).all gokB with | true => rfl | false => exact absurd q hg
          have hwf := grp_wf (l.length + 1) l (-1) (by omega) (by omega) hr hg (fun q => absurd q (by decide))
          have hex := expand_grp (l.length + 1) l (by omega)
          refine ⟨grp (l.length + 1) l, ?_, hex⟩
          obtain ⟨gs, hgs⟩ : ∃ gs, grp (l.length + 1) l = gs := ⟨_, rfl⟩
          rw [hgs] at hwf hex hlen ⊢
          have h10 : (10 : UInt8) ∉ hdrN c := by rw [hdr_words]; exact join_wd (hdr_wd c)
          have hcut := cut_line 10 (hdrN c) (textG gs) h10
          have e : hdrN c ++ [10] ++ textG gs = hdrN c ++ 10 :: textG gs := by simp
          have htl : gs.length ≤ (textG gs).length := by
            clear hwf hex hlen hcut e hgs
            induction gs with
            | nil => exact Nat.zero_le _
            | cons g gs ih => rw [textG_cons, List.length_append, List.length_cons, List.length_cons]; omega
          rw [e] at hlen ⊢
          unfold prsO
          rw [if_neg hlen, hcut]
          dsimp only
          rw [if_neg (by decide), cfg_hdr hc]
          dsimp only
          rw [if_pos hc, prs_text gs _ (-1) 0 2 hwf (by rw [hex]; omega) (by rw [List.length_append, List.length_cons]; omega)]
          rfl
/-- .. a text that is read is its script's. -/
theorem text_back {d : SCfg} {s : List UInt8} {gs : List (SAct × Nat)} (h : prsO s = .inr (d, gs)) : txtO d (expand gs) = (s, 0) ∧ (expand gs).length ≤ 4096 := by
  unfold prsO at h
  split at h
  · cases h
  · rename_i hlen
    split at h
    · cases h
    · rename_i hen
      have hen : (Lib.cut s [10]).2.2 = true := by cases q : (Lib.cut s [10]).2.2 with | true => rfl | false => exact absurd q hen
      split at h
      · cases h
      · rename_i c hcf
        split at h
        · rename_i hc
          cases hp : prsL s.length (-1) 0 2 (Lib.cut s [10]).2.1 with
          | inl e => rw [hp] at h; cases h
          | inr gs' =>
            rw [hp] at h
            simp only [joinR, List.nil_append, Sum.inr.injEq, Prod.mk.injEq] at h
            obtain ⟨rfl, rfl⟩ := h
            obtain ⟨h1, h2, h3⟩ := text_prs _ _ _ _ _ _ hp (by omega)
            have hgrp := grp_expand gs' (-1) ((expand gs').length + 1) h1 (by omega)
            have hall : ∀ (pk : Int) (gs : List (SAct × Nat)), WFg pk gs → gs.all gokB = true := by
              intro pk gs
              induction gs generalizing pk with
              | nil => intro _; rfl
              | cons g gs ih =>
                rintro ⟨q1, _, q3⟩
                rw [List.all_cons, ih _ q3, Bool.and_true]
                unfold gokB
                rw [decide_eq_true ⟨q1.1, q1.2.1⟩]
                rcases q1.2.2.2 with ⟨e, q, _⟩ | ⟨_, q⟩
                · rw [decide_eq_true ⟨e, q⟩]; rfl
                · rw [q]; simp
            have hs : hdrN c ++ [10] ++ textG gs' = s := by
              rw [hdr_cfg hcf, ← h3]
              simpa using (cut_parts hen).symm
            refine ⟨?_, by omega⟩
            unfold txtO
            rw [hc, if_neg (by decide), if_neg (by omega), hgrp, hall _ _ h1, if_neg (by decide), hs, if_neg hlen]
        · cases h
end Go.Proofs.YtillmlaoppibfaaDoor
