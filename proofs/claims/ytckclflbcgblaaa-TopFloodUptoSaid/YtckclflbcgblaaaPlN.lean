/- Planes: neighbours: what is seen by the closure; the plain law. -/
import Derived.Test.YtckclflbcgblaaaPlD
namespace Go.Proofs.Ytckclflbcgblaaa
open Go.RowKit Go.Maps Go.ChangeMaps Go.MapKept
/-- 'out = append(out, u, v)'. -/
theorem wpList_push2 {P : Program} {ops : Array Oper} {rest : List Oper} {o : Oper} {a : Act} {Q : Exit → Act → World → Prop} (hgd : o.guard = none) (s x : Operand) (t : TypeId)
    (ho : o.op = .call { callee := .builtin .append, args := #[s, x], argTypes := #[t, t] })
    (base : Nat) (e : TypeId) (kd : IntKind) (bytes : Nat) (hb8 : bytes ≤ 8) (ht : P.underlying t = some (.slice e)) (hinfo : (P.info? e).map (fun i => (i.zero, i.size, i.bytes)) = some (some (.int kd 0), 1, bytes))
    (wr : World) (A : Option Addr) (n c : Nat) (zs : List Int) (u v : Int) (hs : a.eval s = .slice A n c) (hown : wr.ownsRow base e 1 (.slice A n c) n (zs.map (.int kd)))
    (hx : a.eval x = .slice (some ⟨wr.heap.size, 0, none⟩) 2 2) (hn : n ≤ 1099511627776) (hbase : base ≤ wr.heap.size)
    (h : ∀ g c' w', w'.ownsRow base e 1 (.slice (some ⟨g, 0, none⟩) (n + 2) c') (n + 2) ((zs ++ [u, v]).map (.int kd)) → Below base wr w' → wpList P ops Q rest (a.put o.dst (.slice (some ⟨g, 0, none⟩) (n + 2) c')) w') :
    wpList P ops Q (o :: rest) a (wr.alloc (.cells #[.int kd u, .int kd v] e)) := by
  obtain ⟨i, hi, hz, hz1, hz2⟩ := info_parts hinfo
  have hb2 : (n + 2) * bytes ≤ (n + 2) * 8 := Nat.mul_le_mul_left _ hb8
  refine wpList_append_lies (wr.alloc (.cells #[.int kd u, .int kd v] e)) hgd s x t ho base e i (.int kd 0) 1 bytes ht hi hz hz1 hz2 rfl (by omega) _ n (zs.map (.int kd)) hs (hown.alloc _) ⟨wr.heap.size, 0, none⟩ 2 2 [.int kd u, .int kd v] hx rfl
    (World.news_of_block (cs := #[.int kd u, .int kd v]) (t := e) (fr := (0, 0)) (heap_alloc_new wr _)) (by intro v hv; simp at hv; rcases hv with rfl | rfl <;> rfl) (by omega) (by unfold maxLen; omega) (by omega) (by simp; omega) _ rfl ?_
  intro g cap w' hown' hg hat hlt
  refine h g cap w' (by simpa using hown') ?_
  exact ((Below.refl base wr).alloc hbase _).grown hg (by simp; omega) fun k hk => (hown.lt k hk).1
def RetC (xs : List Int) (x : Int) (b : Bool) (bm m : Nat) (W : World) (e : Ending) (w' : World) : Prop := e = .returned (.bool b) ∧ (∃ D', MpAt w' 3 bm (m + 1) D' ∧ CmD .i64 D' (xs ++ [x])) ∧ Tch (fun k => k = bm) W w'
set_option maxRecDepth 100000 in
set_option maxHeartbeats 2000000 in
theorem near_cl (x : Int) (bm t9 t3 m : Nat) (D : DataW Unit) (xs : List Int) (W : World) (A : Option Addr) (n c : Nat) (ns : List ND) (en tp : Int)
    (hM : MpAt W 3 bm m D) (hD : CmD .i64 D xs) (hwf : (Lit.int .i64 x).wf = true) (h9 : Blk W t9 63 #[.map (some bm)]) (h3 : Blk W t3 27 (pgL A n c en tp)) (hg : PgAt W W.heap.size A n c ns)
    (hm : m ≤ 2097152) (hl : xs.length ≤ 2097152) (hgb : PgAt W bm A n c ns) (h3b : t3 ≠ bm) (h9b : t9 ≠ bm) :
    Calls Try.prog 33 #[.int .i64 x, .pointer (some ⟨t9, 0, none⟩), .pointer (some ⟨t3, 0, none⟩)] W (RetC xs x (hasI xs x || !thB ns x) bm m W) := by
  have c9 : W.cell? ⟨t9, 0, none⟩ = some (.map (some bm)) := h9.cell 0
  have HM := Lib.hid hM
  have HD := Lib.hid hD
  have HG := Lib.hid hg
  have hkey := keyOf_int_mk (P := Try.prog) Try.underlying3 hwf
  have hsn := hD.snoc x
  have hcl := count_le xs x
  have hhas : hasI xs x = decide (0 < xs.count x) := by
    cases e : hasI xs x with
    | true => exact (decide_eq_true (count_pos.2 (hasI_iff.1 e))).symm
    | false =>
      refine (decide_eq_false fun q => ?_).symm
      rw [hasI_iff.2 (count_pos.1 q)] at e; cases e
  obtain ⟨cn, hcn⟩ : ∃ cn : Nat, xs.count x = cn := ⟨_, rfl⟩
  rw [hcn] at hsn hcl hhas
  have HCN := Lib.hid hcn
  have HSN := Lib.hid hsn
  have hv := plainElem_int (H := Unit) (P := Try.prog) Try.underlying3 (wf_cnt (n := cn) (by omega))
  have hmx : m < maxLen := by unfold maxLen; omega
  have H9 := Lib.hid h9
  have H3 := Lib.hid h3
  have hct2 : (xs ++ [x]).count x = cn + 1 := by rw [List.count_append, hcn]; simp
  have HCT2 := Lib.hid hct2
  have hcn' : cn ≤ 2097152 := by omega
  have HGB := Lib.hid hgb
  have H3B := Lib.hid h3b
  have H9B := Lib.hid h9b
  clear hM hD hg hwf hsn hcn h9 h3 hct2 hcl hl hgb h3b h9b
  have ARM : ∀ w2 : World, MpAt w2 3 bm (m + 1) (D.put (.int .i64 x) (.lit (.int .i64 ((cn : Int) + 1)))) → W.grownBy w2 (some bm) → w2.cell? ⟨t9, 0, none⟩ = some (.map (some bm)) ∧ Blk w2 t3 27 (pgL A n c en tp) ∧ PgAt w2 w2.heap.size A n c ns ∧ Tch (fun k => k = bm) W w2 := by
    intro w2 h1 hgr
    have b9 : Blk w2 t9 63 #[.map (some bm)] := (hgr.block t9 H9.out.lt (by intro e; injection e with e; exact H9B.out e)).trans H9.out
    have b3 : Blk w2 t3 27 (pgL A n c en tp) := (hgr.block t3 H3.out.lt (by intro e; injection e with e; exact H3B.out e)).trans H3.out
    have ht : Tch (fun k => k = bm) W w2 := ⟨hgr.os, hgr.tape, hgr.output, hgr.size, fun k hk hn => hgr.block k hk (by intro e; injection e with e; exact hn e)⟩
    have hbl : Below bm W w2 := ⟨hgr.os, hgr.tape, hgr.output, hgr.size, fun k hk => hgr.block k (by have := HM.out.lt; omega) (by intro e; injection e with e; omega)⟩
    exact ⟨b9.cell 0, b3, (HGB.out.below hbl).more (Nat.le_of_lt h1.lt), ht⟩
  have HARM := Lib.hid ARM
  clear ARM
  by_cases h0 : cn = 0
  · subst h0
    have hb : hasI xs x = false := hhas
    have HB := Lib.hid hb
    clear hhas hb
    cases ht : thB ns x with
    | true =>
      have HR : Hid ((hasI xs x || !true) = false) := by show _ = _; rw [HB.out]; rfl
      have HT := Lib.hid ht
      clear ht
      go_enter Try.func33, Try.ntmps33
      go_wp2_with (first
        | (at_lookup; refine wpList_lookup_own_int _ rfl (.tmp 5) (.tmp 6) 63 rfl 3 3 .i64 lawI Try.underlying63 Try.underlying3 (zeroI _) bm m D rfl HM.out (.int .i64 x) (.int .i64 x) rfl hkey ?_; intro cc hat hwc; obtain rfl : cc = 0 := (cnt_eq HD.out hat).trans (by rw [HCN.out]; rfl); clear hat hwc)
        | (at_mapUpdate; refine wpList_mapUpdate_own _ rfl (.tmp 5) (.tmp 6) (.tmp 8) 63 rfl 3 3 lawI Try.underlying63 (plainElem Try.prog 3) bm m D rfl HM.out hmx (.int .i64 x) (.int .i64 1) (.int .i64 x) rfl rfl hkey (.lit (.int .i64 1)) [] hv ?_; intro w2 hM2 hg2; obtain ⟨d9, b3, g3, ht2⟩ := HARM.out w2 hM2 hg2; have LP := plane_load b3; have HTH := pl_there A n c ns en tp x w2 g3; rw [HT.out] at HTH; unfold pgL at LP HTH; replace HTH := Lib.hid HTH; replace hM2 := Lib.hid hM2; replace ht2 := Lib.hid ht2; clear hg2 b3 g3)
        | (at_lookup; refine wpList_lookup_own_int _ rfl (.tmp 9) (.tmp 10) 63 rfl 3 3 .i64 lawI Try.underlying63 Try.underlying3 (zeroI _) bm (m + 1) _ rfl hM2.out (.int .i64 x) (.int .i64 x) rfl hkey ?_; intro cc hat hwc; obtain rfl : cc = 1 := (cnt_eq HSN.out hat).trans (by rw [HCT2.out]; rfl); clear hat hwc)
        | (refine wpList_loadG LP _ rfl rfl rfl ?_)
        | (go_at_call 20; refine HTH.out.mono ?_; rintro e w3 ⟨rfl, b3⟩; have hM3 := Lib.hid (MpAt.below hM2.out b3); have ht3 : Hid (Tch (fun k => k = bm) W w3) := ht2.out.trans (Tch.of_below b3) (fun _ h => .inl h); clear b3))
      go_ret
      exact ⟨by rw [HR.out]; rfl, ⟨_, hM3.out, HSN.out⟩, ht3.out⟩
    | false =>
      have HR : Hid ((hasI xs x || !false) = true) := by show _ = _; rw [HB.out]; rfl
      have HT := Lib.hid ht
      clear ht
      go_enter Try.func33, Try.ntmps33
      go_wp2_with (first
        | (at_lookup; refine wpList_lookup_own_int _ rfl (.tmp 5) (.tmp 6) 63 rfl 3 3 .i64 lawI Try.underlying63 Try.underlying3 (zeroI _) bm m D rfl HM.out (.int .i64 x) (.int .i64 x) rfl hkey ?_; intro cc hat hwc; obtain rfl : cc = 0 := (cnt_eq HD.out hat).trans (by rw [HCN.out]; rfl); clear hat hwc)
        | (at_mapUpdate; refine wpList_mapUpdate_own _ rfl (.tmp 5) (.tmp 6) (.tmp 8) 63 rfl 3 3 lawI Try.underlying63 (plainElem Try.prog 3) bm m D rfl HM.out hmx (.int .i64 x) (.int .i64 1) (.int .i64 x) rfl rfl hkey (.lit (.int .i64 1)) [] hv ?_; intro w2 hM2 hg2; obtain ⟨d9, b3, g3, ht2⟩ := HARM.out w2 hM2 hg2; have LP := plane_load b3; have HTH := pl_there A n c ns en tp x w2 g3; rw [HT.out] at HTH; unfold pgL at LP HTH; replace HTH := Lib.hid HTH; replace hM2 := Lib.hid hM2; replace ht2 := Lib.hid ht2; clear hg2 b3 g3)
        | (at_lookup; refine wpList_lookup_own_int _ rfl (.tmp 9) (.tmp 10) 63 rfl 3 3 .i64 lawI Try.underlying63 Try.underlying3 (zeroI _) bm (m + 1) _ rfl hM2.out (.int .i64 x) (.int .i64 x) rfl hkey ?_; intro cc hat hwc; obtain rfl : cc = 1 := (cnt_eq HSN.out hat).trans (by rw [HCT2.out]; rfl); clear hat hwc)
        | (refine wpList_loadG LP _ rfl rfl rfl ?_)
        | (go_at_call 20; refine HTH.out.mono ?_; rintro e w3 ⟨rfl, b3⟩; have hM3 := Lib.hid (MpAt.below hM2.out b3); have ht3 : Hid (Tch (fun k => k = bm) W w3) := ht2.out.trans (Tch.of_below b3) (fun _ h => .inl h); clear b3))
      go_ret
      exact ⟨by rw [HR.out]; rfl, ⟨_, hM3.out, HSN.out⟩, ht3.out⟩
  · have hb : hasI xs x = true := by rw [hhas]; exact decide_eq_true (Nat.pos_of_ne_zero h0)
    have HR : Hid ((hasI xs x || !thB ns x) = true) := by show _ = _; rw [hb]; rfl
    have h1 : (1 : Int) < (cn : Int) + 1 := by omega
    clear hhas hb
    go_enter Try.func33, Try.ntmps33
    go_wp2_with (first
      | (at_lookup; refine wpList_lookup_own_int _ rfl (.tmp 5) (.tmp 6) 63 rfl 3 3 .i64 lawI Try.underlying63 Try.underlying3 (zeroI _) bm m D rfl HM.out (.int .i64 x) (.int .i64 x) rfl hkey ?_; intro cc hat hwc; obtain rfl : cc = (cn : Int) := (cnt_eq HD.out hat).trans (by rw [HCN.out]); clear hat hwc)
      | (at_mapUpdate; refine wpList_mapUpdate_own _ rfl (.tmp 5) (.tmp 6) (.tmp 8) 63 rfl 3 3 lawI Try.underlying63 (plainElem Try.prog 3) bm m D rfl HM.out hmx (.int .i64 x) (.int .i64 ((cn : Int) + 1)) (.int .i64 x) rfl rfl hkey (.lit (.int .i64 ((cn : Int) + 1))) [] hv ?_; intro w2 hM2 hg2; obtain ⟨d9, b3, g3, ht2⟩ := HARM.out w2 hM2 hg2; have LP := plane_load b3; have HTH := pl_there A n c ns en tp x w2 g3; unfold pgL at LP HTH; replace HTH := Lib.hid HTH; replace hM2 := Lib.hid hM2; replace ht2 := Lib.hid ht2; clear hg2 b3 g3)
      | (at_lookup; refine wpList_lookup_own_int _ rfl (.tmp 9) (.tmp 10) 63 rfl 3 3 .i64 lawI Try.underlying63 Try.underlying3 (zeroI _) bm (m + 1) _ rfl hM2.out (.int .i64 x) (.int .i64 x) rfl hkey ?_; intro cc hat hwc; obtain rfl : cc = (cn : Int) + 1 := (cnt_eq HSN.out hat).trans (by rw [HCT2.out]; rfl); clear hat hwc))
    go_ret
    exact ⟨by rw [HR.out]; rfl, ⟨_, hM2.out, HSN.out⟩, ht2.out⟩
/-- What is left of the neighbours: those that are there, each once. -/
def nearQ (ns : List ND) (l : List Int) (i : Nat) : Bool := hasI (l.take i) (ig l i) || !thB ns (ig l i)
theorem kept_mem (ns : List ND) (l : List Int) (x : Int) : ∀ k, k ≤ l.length → (x ∈ keptI (nearQ ns l) l k ↔ x ∈ l.take k ∧ thB ns x = true)
  | 0, _ => by simp [keptI]
  | k + 1, hk => by
    have ih := kept_mem ns l x k (by omega)
    show x ∈ keptI (nearQ ns l) l k ++ (if nearQ ns l k then [] else [ig l k]) ↔ _
    rw [List.mem_append, ih, take_step (by omega), List.mem_append]
    unfold nearQ
    cases h1 : hasI (l.take k) (ig l k) with
    | true =>
      have hm := hasI_iff.1 h1
      simp only [Bool.true_or, if_true, List.not_mem_nil, or_false, List.mem_singleton]
      constructor
      · rintro ⟨a, b⟩; exact ⟨.inl a, b⟩
      · rintro ⟨a | a, b⟩
        · exact ⟨a, b⟩
        · subst a; exact ⟨hm, b⟩
    | false =>
      cases h2 : thB ns (ig l k) with
      | true =>
        simp only [Bool.false_or, Bool.not_true, Bool.false_eq_true, if_false, List.mem_singleton]
        constructor
        · rintro (⟨a, b⟩ | a)
          · exact ⟨.inl a, b⟩
          · subst a; exact ⟨.inr rfl, h2⟩
        · rintro ⟨a | a, b⟩
          · exact .inl ⟨a, b⟩
          · exact .inr a
      | false =>
        simp only [Bool.false_or, Bool.not_false, if_true, List.not_mem_nil, or_false, List.mem_singleton]
        constructor
        · rintro ⟨a, b⟩; exact ⟨.inl a, b⟩
        · rintro ⟨a | a, b⟩
          · exact ⟨a, b⟩
          · subst a; rw [h2] at b; cases b
theorem kept_with (ns : List ND) (l : List Int) {k : Nat} (hk : k < l.length) : keptI (nearQ ns l) l (k + 1) = if thB ns (ig l k) then withI (keptI (nearQ ns l) l k) (ig l k) else keptI (nearQ ns l) l k := by
  show keptI (nearQ ns l) l k ++ (if nearQ ns l k then [] else [ig l k]) = _
  have hm := kept_mem ns l (ig l k) k (by omega)
  cases h2 : thB ns (ig l k) with
  | false =>
    have : nearQ ns l k = true := by unfold nearQ; rw [h2]; simp
    rw [this]; simp
  | true =>
    rw [h2] at hm
    simp only [and_true] at hm
    have hq : nearQ ns l k = hasI (keptI (nearQ ns l) l k) (ig l k) := by
      have e : hasI (l.take k) (ig l k) = hasI (keptI (nearQ ns l) l k) (ig l k) := by
        rw [Bool.eq_iff_iff, hasI_iff, hasI_iff]
        exact hm.symm
      rw [← e]
      unfold nearQ
      rw [h2]; simp
    rw [hq]
    unfold withI
    simp only [if_true]
    cases hasI (keptI (nearQ ns l) l k) (ig l k) <;> simp
/-- A list of a node. -/
def lsAt (d : ND) (k : Nat) : IS := d.ls.getD k ⟨none, 0, 0, []⟩
def nearSrc (ns : List ND) (k : Nat) (level : Int) : List Int :=
  (if 0 < k ∧ 0 ≤ level ∧ level < (nAt ns k).ls.length then (lsAt (nAt ns k) level.toNat).xs else []) ++ if level = 0 then [(nAt ns k).next, (nAt ns k).prev] else []
def nearI (ns : List ND) (s level : Int) : List Int := if 0 ≤ s ∧ s < ns.length then keptI (nearQ ns (nearSrc ns s.toNat level)) (nearSrc ns s.toNat level) (nearSrc ns s.toNat level).length else []
end Go.Proofs.Ytckclflbcgblaaa
