/- Reach: waves, the plain law, From and Steps. -/
import Derived.Test.YtkhnnjeinpojkaaPlO
import Derived.Test.YtkhnnjeinpojkaaRow
import Derived.Test.YtkhnnjeinpojkaaPmD
namespace Go.Proofs.Ytkhnnjeinpojkaa
open Go.RowKit Go.Maps Go.ChangeMaps Go.MapKept
theorem OwnI.apart {w w' : World} {B : Nat} {A : Option Addr} {n c : Nat} {xs : List Int} (h : OwnI w B A n c xs) (hb : ∀ g, B ≤ g → g < w.heap.size → w'.heap[g]? = w.heap[g]?) : OwnI w' B A n c xs := by
  rcases h.row with ⟨rfl, rfl, rfl⟩ | ⟨g, rfl, hB, hnc, hcm, cs, hcs, hln, htk⟩
  · have : xs = [] := List.eq_nil_of_length_eq_zero h.len
    subst this
    exact OwnI.nil_ _ _
  · have h1 := OwnI.of_row (hcs.at_ (hb g hB hcs.ib.lt)) hB hln hcm
    rwa [htk] at h1
/-- A wave, as it lies in memory: what was met, one by one (M), and the edge (E). -/
def wvC (A : Option Addr) (n c : Nat) (en tp level : Int) (bm : Nat) (eA : Option Addr) (em ec : Nat) : Array Value := #[.slice A n c, .int .i64 en, .int .i64 tp, .int .i64 level, .map (some bm), .slice eA em ec]
structure WvS (W : World) (EB wb bm : Nat) (A : Option Addr) (n c : Nat) (en tp level : Int) (M E : List Int) (eA : Option Addr) (em ec : Nat) : Prop where
  blk : Blk W wb 117 (wvC A n c en tp level bm eA em ec)
  map : ∃ m D, m ≤ M.length ∧ MpAt W 3 bm m D ∧ CmD .i64 D M
  own : OwnI W EB eA em ec E
  ne : bm ≠ wb
  bE : bm < EB
  wE : wb < EB
  eW : EB ≤ W.heap.size
def metE (M E : List Int) (x : Int) : List Int := if hasI M x then E else E ++ [x]
/-- Append of one int: what it leaves be, block by block. -/
theorem wpList_pushG {P : Program} {ops : Array Oper} {rest : List Oper} {o : Oper} {a : Act} {Q : Exit → Act → World → Prop} (hgd : o.guard = none) (s x : Operand) (t : TypeId)
    (ho : o.op = .call { callee := .builtin .append, args := #[s, x], argTypes := #[t, t] })
    (base : Nat) (e : TypeId) (kd : IntKind) (bytes : Nat) (hb8 : bytes ≤ 8) (ht : P.underlying t = some (.slice e)) (hinfo : (P.info? e).map (fun i => (i.zero, i.size, i.bytes)) = some (some (.int kd 0), 1, bytes))
    (wr : World) (A : Option Addr) (n c : Nat) (zs : List Int) (u : Int) (hs : a.eval s = .slice A n c) (hown : wr.ownsRow base e 1 (.slice A n c) n (zs.map (.int kd)))
    (hx : a.eval x = .slice (some ⟨wr.heap.size, 0, none⟩) 1 1) (hn : n ≤ 1099511627776) (hbase : base ≤ wr.heap.size)
    (h : ∀ g c' w', w'.ownsRow base e 1 (.slice (some ⟨g, 0, none⟩) (n + 1) c') (n + 1) ((zs ++ [u]).map (.int kd)) → Tch (fun k => (Value.slice A n c).ownBlock = some k) wr w' → ((Value.slice A n c).ownBlock = some g ∨ wr.heap.size ≤ g) → wpList P ops Q rest (a.put o.dst (.slice (some ⟨g, 0, none⟩) (n + 1) c')) w') :
    wpList P ops Q (o :: rest) a (wr.alloc (.cells #[.int kd u] e)) := by
  obtain ⟨i, hi, hz, hz1, hz2⟩ := info_parts hinfo
  have hb2 : (n + 1) * bytes ≤ (n + 1) * 8 := Nat.mul_le_mul_left _ hb8
  refine wpList_append_lies (wr.alloc (.cells #[.int kd u] e)) hgd s x t ho base e i (.int kd 0) 1 bytes ht hi hz hz1 hz2 rfl (by omega) _ n (zs.map (.int kd)) hs (hown.alloc _) ⟨wr.heap.size, 0, none⟩ 1 1 [.int kd u] hx rfl
    (cell_one_new _ _ _) (by intro v hv; simp at hv; subst hv; rfl) (by omega) (by unfold maxLen; omega) (by omega) (by simp; omega) _ rfl ?_
  intro g cap w' hown' hg hat hlt
  have hs1 : (wr.alloc (.cells #[.int kd u] e)).heap.size = wr.heap.size + 1 := by simp only [World.alloc, Array.size_push]
  refine h g cap w' (by simpa using hown') ?_ (hat.imp id fun q => by omega)
  refine (Tch.alloc (S := fun k => (Value.slice A n c).ownBlock = some k) (Tch.refl _ wr) (.cells #[.int kd u] e)).trans (S' := fun k => (Value.slice A n c).ownBlock = some k) ⟨hg.os, hg.tape, hg.output, hg.size, fun k hk hn => hg.block k hk (fun q => hn q.symm)⟩ (fun k q => .inl q)
def RetW (EB wb bm : Nat) (A : Option Addr) (n c : Nat) (en tp level : Int) (M E : List Int) (eA0 : Option Addr) (em0 ec0 : Nat) (W : World) (e : Ending) (w' : World) : Prop :=
  e = .returned (.tuple #[]) ∧ Tch (fun k => k = wb ∨ k = bm ∨ (Value.slice eA0 em0 ec0).ownBlock = some k) W w' ∧ ∃ eA em ec, (∀ k, (Value.slice eA em ec).ownBlock = some k → (Value.slice eA0 em0 ec0).ownBlock = some k ∨ W.heap.size ≤ k) ∧ WvS w' EB wb bm A n c en tp level M E eA em ec
set_option maxRecDepth 100000 in
set_option maxHeartbeats 2000000 in
theorem wv_reach (x : Int) (EB wb bm : Nat) (A : Option Addr) (n c : Nat) (en tp level : Int) (M E : List Int) (eA : Option Addr) (em ec : Nat) (W : World)
    (h : WvS W EB wb bm A n c en tp level M E eA em ec) (hwf : (Lit.int .i64 x).wf = true) (hml : M.length ≤ 2097151) (hel : E.length ≤ 1048576) :
    Calls Try.prog 109 #[.pointer (some ⟨wb, 0, none⟩), .int .i64 x] W (RetW EB wb bm A n c en tp level (M ++ [x]) (metE M E x) eA em ec W) := by
  obtain ⟨hblk, ⟨m, D, hmm, hM, hD⟩, hown, hne, hbE, hwE, heW⟩ := h
  have c4 : W.cell? ⟨wb, 4, none⟩ = some (.map (some bm)) := hblk.cell 4
  have hemE := hown.len
  have HM := Lib.hid hM
  have HD := Lib.hid hD
  have hkey := keyOf_int_mk (P := Try.prog) Try.underlying3 hwf
  have hsn := hD.snoc x
  have hcl := count_le M x
  have hhas : hasI M x = decide (0 < M.count x) := by
    cases e : hasI M x with
    | true => exact (decide_eq_true (count_pos.2 (hasI_iff.1 e))).symm
    | false =>
      refine (decide_eq_false fun q => ?_).symm
      rw [hasI_iff.2 (count_pos.1 q)] at e; cases e
  obtain ⟨cn, hcn⟩ : ∃ cn : Nat, M.count x = cn := ⟨_, rfl⟩
  rw [hcn] at hsn hcl hhas
  have HCN := Lib.hid hcn
  have HSN := Lib.hid hsn
  have hv := plainElem_int (H := Unit) (P := Try.prog) Try.underlying3 (wf_cnt (n := cn) (by omega))
  have hmx : m < maxLen := by unfold maxLen; omega
  have hct2 : (M ++ [x]).count x = cn + 1 := by rw [List.count_append, hcn]; simp
  have HCT2 := Lib.hid hct2
  have hcn' : cn ≤ 2097152 := by omega
  have HBK := Lib.hid hblk
  have HOW := Lib.hid hown
  have ARM : Hid (∀ w2 : World, W.grownBy w2 (some bm) → Blk w2 wb 117 (wvC A n c en tp level bm eA em ec) ∧ OwnI w2 EB eA em ec E ∧ Tch (fun k => k = wb ∨ k = bm ∨ (Value.slice eA em ec).ownBlock = some k) W w2 ∧ EB ≤ w2.heap.size) := by
    intro w2 hgr
    refine ⟨(hgr.block wb HBK.out.lt (by intro e; injection e with e; exact hne e.symm)).trans HBK.out, HOW.out.apart fun g hg hgs => hgr.block g hgs (by intro e; injection e with e; omega), ⟨hgr.os, hgr.tape, hgr.output, hgr.size, fun k hk hn => hgr.block k hk (by intro e; injection e with e; exact hn (.inr (.inl e)))⟩, Nat.le_trans heW hgr.size⟩
  have HMM := Lib.hid hmm
  have HL := Lib.hid (show (M ++ [x]).length = M.length + 1 by simp)
  have HX := Lib.hid (And.intro hne (And.intro hbE hwE))
  clear hM hD hwf hsn hcn hct2 hcl hblk hown hmm hne hbE
  by_cases h0 : cn = 0
  · subst h0
    have HE : Hid (metE M E x = E ++ [x]) := by show _ = _; unfold metE; rw [hhas]; simp
    clear hhas
    go_enter Try.func109, Try.ntmps109
    go_wp2_with (first
      | (at_lookup; refine wpList_lookup_own_int _ rfl (.tmp 7) (.tmp 8) 104 rfl 3 3 .i64 lawI Try.underlying104 Try.underlying3 (zeroI _) bm m D rfl HM.out (.int .i64 x) (.int .i64 x) rfl hkey ?_; intro cc hat hwc; obtain rfl : cc = 0 := (cnt_eq HD.out hat).trans (by rw [HCN.out]; rfl); clear hat hwc)
      | (at_mapUpdate; refine wpList_mapUpdate_own _ rfl (.tmp 7) (.tmp 8) (.tmp 10) 104 rfl 3 3 lawI Try.underlying104 (plainElem Try.prog 3) bm m D rfl HM.out hmx (.int .i64 x) (.int .i64 1) (.int .i64 x) rfl rfl hkey (.lit (.int .i64 1)) [] hv ?_; intro w2 hM2 hg2; obtain ⟨K2, O2, T2, E2⟩ := ARM.out w2 hg2; have d4 : w2.cell? ⟨wb, 4, none⟩ = some (.map (some bm)) := K2.cell 4; have d5 : w2.cell? ⟨wb, 5, none⟩ = some (.slice eA em ec) := K2.cell 5; replace hM2 := Lib.hid hM2; have HK2 := Lib.hid K2; have HO2 := Lib.hid O2; have HT2 := Lib.hid T2; clear K2 O2 T2 hg2)
      | (at_lookup; refine wpList_lookup_own_int _ rfl (.tmp 14) (.tmp 15) 104 rfl 3 3 .i64 lawI Try.underlying104 Try.underlying3 (zeroI _) bm (m + 1) _ rfl hM2.out (.int .i64 x) (.int .i64 x) rfl hkey ?_; intro cc hat hwc; obtain rfl : cc = 1 := (cnt_eq HSN.out hat).trans (by rw [HCT2.out]; rfl); clear hat hwc)
      | (at_builtin; refine wpList_pushG rfl (.tmp 22) (.tmp 24) _ rfl EB 3 .i64 8 (by decide) Try.underlying35 info_int w2 eA em ec E _ rfl HO2.out rfl (by omega) E2 ?_; intro g' c'' w3 ho3 hb3 hg3; have hown2 := HO2.out; have hbl3 : Below EB w2 w3 := hb3.below E2 (fun k hk => (World.ownsRow.lt hown2 k hk).1); have K3 := HK2.out.below hbl3 hwE; have d5' : w3.cell? ⟨wb, 5, none⟩ = some (.slice eA em ec) := K3.cell 5; have f5 := K3.frozen 5; have HK3 := Lib.hid K3; have HO3 := Lib.hid ho3; have HB3 := Lib.hid hbl3; have HT3 := Lib.hid hb3; have HG3 := Lib.hid hg3; clear K3 ho3 hb3 hbl3 hg3 hown2))
    have HQ : Hid (RetW EB wb bm A n c en tp level (M ++ [x]) (metE M E x) eA em ec W (.returned (.tuple #[])) (w3.setCell ⟨wb, 5, none⟩ (.slice (some ⟨g', 0, none⟩) (em + 1) c''))) := by
      have hs3 := HB3.out.size
      have hs2 := HT2.out.size
      refine ⟨rfl, ?_, some ⟨g', 0, none⟩, em + 1, c'', fun k hk => ?_, ?_⟩
      · exact (HT2.out.trans HT3.out (fun k hk => .inl (.inr (.inr hk)))).setCell (.inl rfl) _ _
      · have hk' : g' = k := by injection hk
        subst hk'
        exact HG3.out.imp id fun q => by omega
      · refine ⟨?_, ⟨m + 1, _, by rw [HL.out]; have := HMM.out; omega, MpAt.at_ (MpAt.at_ hM2.out (HB3.out.block bm HX.out.2.1)) (Below.heap_setCell w3 ⟨wb, 5, none⟩ _ _ (by exact fun e => HX.out.1 e)), HSN.out⟩, ?_, HX.out.1, HX.out.2.1, HX.out.2.2, ?_⟩
        · have h1 := HK3.out.set_ 5 (.slice (some ⟨g', 0, none⟩) (em + 1) c'')
          exact h1
        · rw [HE.out]
          exact OwnI.apart (show OwnI w3 EB (some ⟨g', 0, none⟩) (em + 1) c'' (E ++ [x]) from HO3.out) fun g hg hgs => Below.heap_setCell w3 ⟨wb, 5, none⟩ _ _ (by show g ≠ wb; omega)
        · exact Nat.le_trans (Nat.le_trans E2 hs3) (Tch.setCell (S := fun _ => True) (Tch.refl _ _) trivial _ _).size
    clear HK3 HO3 HB3 d5' f5
    go_end0
    exact HQ.out
  · have HE : Hid (metE M E x = E) := by show _ = _; unfold metE; rw [hhas, decide_eq_true (Nat.pos_of_ne_zero h0)]; simp
    have h1 : (((cn : Int) + 1) == 1) = false := beq_false_of_ne (by omega)
    clear hhas
    go_enter Try.func109, Try.ntmps109
    go_wp2_with (first
      | (at_lookup; refine wpList_lookup_own_int _ rfl (.tmp 7) (.tmp 8) 104 rfl 3 3 .i64 lawI Try.underlying104 Try.underlying3 (zeroI _) bm m D rfl HM.out (.int .i64 x) (.int .i64 x) rfl hkey ?_; intro cc hat hwc; obtain rfl : cc = (cn : Int) := (cnt_eq HD.out hat).trans (by rw [HCN.out]); clear hat hwc)
      | (at_mapUpdate; refine wpList_mapUpdate_own _ rfl (.tmp 7) (.tmp 8) (.tmp 10) 104 rfl 3 3 lawI Try.underlying104 (plainElem Try.prog 3) bm m D rfl HM.out hmx (.int .i64 x) (.int .i64 ((cn : Int) + 1)) (.int .i64 x) rfl rfl hkey (.lit (.int .i64 ((cn : Int) + 1))) [] hv ?_; intro w2 hM2 hg2; obtain ⟨K2, O2, T2, E2⟩ := ARM.out w2 hg2; have d4 : w2.cell? ⟨wb, 4, none⟩ = some (.map (some bm)) := K2.cell 4; replace hM2 := Lib.hid hM2; have HK2 := Lib.hid K2; have HO2 := Lib.hid O2; have HT2 := Lib.hid T2; clear K2 O2 T2 hg2)
      | (at_lookup; refine wpList_lookup_own_int _ rfl (.tmp 14) (.tmp 15) 104 rfl 3 3 .i64 lawI Try.underlying104 Try.underlying3 (zeroI _) bm (m + 1) _ rfl hM2.out (.int .i64 x) (.int .i64 x) rfl hkey ?_; intro cc hat hwc; obtain rfl : cc = (cn : Int) + 1 := (cnt_eq HSN.out hat).trans (by rw [HCT2.out]; rfl); clear hat hwc))
    have HQ : Hid (RetW EB wb bm A n c en tp level (M ++ [x]) (metE M E x) eA em ec W (.returned (.tuple #[])) w2) :=
      ⟨rfl, HT2.out, eA, em, ec, fun k hk => .inl hk, HK2.out, ⟨m + 1, _, by rw [HL.out]; have := HMM.out; omega, hM2.out, HSN.out⟩, by rw [HE.out]; exact HO2.out, HX.out.1, HX.out.2.1, HX.out.2.2, E2⟩
    go_end0
    exact HQ.out
theorem re_fold_take {β : Type} (f : β → Int → β) (a : β) {l : List Int} {k : Nat} (hk : k < l.length) : (l.take (k + 1)).foldl f a = f ((l.take k).foldl f a) (ig l k) := by rw [take_step hk, List.foldl_append]; rfl
/-- What was met and the edge, behind one slot more. -/
def wvF (p : List Int × List Int) (x : Int) : List Int × List Int := (p.1 ++ [x], metE p.1 p.2 x)
theorem wvF_fst : ∀ (l : List Int) (p : List Int × List Int), (l.foldl wvF p).1 = p.1 ++ l
  | [], p => by simp
  | x :: l, p => by rw [List.foldl_cons, wvF_fst l]; simp [wvF]
theorem metE_len (M E : List Int) (x : Int) : (metE M E x).length ≤ E.length + 1 := by unfold metE; split <;> simp
theorem wvF_snd : ∀ (l : List Int) (p : List Int × List Int), (l.foldl wvF p).2.length ≤ p.2.length + l.length
  | [], p => by simp
  | x :: l, p => by
    rw [List.foldl_cons]
    have h1 := wvF_snd l (wvF p x)
    have h2 : (wvF p x).2.length ≤ p.2.length + 1 := metE_len _ _ _
    rw [List.length_cons]; omega
def RetBg (A : Option Addr) (n c : Nat) (en tp level : Int) (xs : List Int) (W : World) (e : Ending) (w' : World) : Prop :=
  ∃ EB wb bm eA em ec, e = .returned (.pointer (some ⟨wb, 0, none⟩)) ∧ W.heap.size ≤ wb ∧ W.heap.size ≤ bm ∧ Below W.heap.size W w' ∧ WvS w' EB wb bm A n c en tp level xs (xs.foldl wvF ([], [])).2 eA em ec
set_option maxRecDepth 100000 in
set_option maxHeartbeats 2000000 in
theorem wv_begin (A : Option Addr) (n c : Nat) (en tp level : Int) (sA : Option Addr) (sn sc : Nat) (xs : List Int) (w : World)
    (hr : Rd w w.heap.size sA sn (xs.map (.int .i64))) (hsn : sn ≤ 1048576) (hwf : ∀ x ∈ xs, (Lit.int .i64 x).wf = true) :
    Calls Try.prog 87 #[.agg (pgL A n c en tp), .slice sA sn sc, .int .i64 level] w (RetBg A n c en tp level xs w) := by
  obtain ⟨w1, hw1⟩ : ∃ x, w.alloc (.cells (pgL A n c en tp) 56) = x := ⟨_, rfl⟩
  obtain ⟨C1, b1⟩ := box_plane hw1
  have hl1 := C1.lt
  have LP := plane_load C1
  obtain ⟨w2, hw2⟩ : ∃ x, w1.alloc (.map #[] 0) = x := ⟨_, rfl⟩
  have b2 : Below w1.heap.size w1 w2 := by rw [← hw2]; exact bel_box _ _
  have s2 : w2.heap.size = w1.heap.size + 1 := by rw [← hw2]; simp only [World.alloc, Array.size_push]
  obtain ⟨w3, hw3⟩ : ∃ x, w2.alloc (.cells (wvC A n c en tp level w1.heap.size none 0 0) 117) = x := ⟨_, rfl⟩
  have b3 : Below w2.heap.size w2 w3 := by rw [← hw3]; exact bel_box _ _
  have s3 : w3.heap.size = w2.heap.size + 1 := by rw [← hw3]; simp only [World.alloc, Array.size_push]
  have K3 : Blk w3 (w1.heap.size + 1) 117 (wvC A n c en tp level w1.heap.size none 0 0) := by rw [← hw3, ← s2]; exact Blk.new _ _ _
  have M3 : MpAt w3 3 w1.heap.size 0 (.map []) := by
    rw [← hw3]
    refine MpAt.alloc ?_ _
    rw [← hw2]
    exact World.ownsMap_made w1 Try.prog 3 (plainElem (H := Unit) Try.prog 3)
  have HW3 : Hid (WvS w3 w3.heap.size (w1.heap.size + 1) w1.heap.size A n c en tp level [] [] none 0 0) := ⟨K3, ⟨0, _, Nat.zero_le _, M3, CmD.nil_ _⟩, OwnI.nil_ _ _, by omega, by omega, by omega, Nat.le_refl _⟩
  have HB3 := Lib.hid ((b1.trans (b2.mono b1.size)).trans (b3.mono (by have := b1.size; have := b2.size; omega)))
  have hmm := fun w => run_makeMap (P := Try.prog) 104 w
  have HR := Lib.hid hr
  have HWF := Lib.hid hwf
  have hlen : xs.length = sn := by simpa using hr.1
  clear hr hwf C1 b1 b2 b3 K3 M3
  unfold pgL at hw1 LP ⊢
  unfold wvC at hw3
  go_enter Try.func87, Try.ntmps87
  go_upto_region 1 with fail
  (try rw [hw1])
  go_upto_region 2 with (refine wpList_loadE LP _ rfl rfl rfl ?_)
  (try rw [hw2])
  (try rw [hw3])
  clear hw1 hw2 hw3 LP hmm
  go_wp2_with fail
  go_loopw [9, 17] (fun _ s17 wr => ∃ (j : Nat) (eA : Option Addr) (em ec : Nat), j ≤ sn ∧ s17 = .int .i64 j ∧ Hid (WvS wr w3.heap.size (w1.heap.size + 1) w1.heap.size A n c en tp level (xs.take j) ((xs.take j).foldl wvF ([], [])).2 eA em ec) ∧ Hid (Below w.heap.size w wr)) (fun _ s17 _ => sn - (intOf s17).toNat)
  case atStart => exact ⟨0, none, 0, 0, Nat.zero_le _, rfl, Lib.hid (by show WvS _ _ _ _ _ _ _ _ _ _ _ _ _ _ _; simpa using HW3.out), HB3⟩
  case round =>
    obtain ⟨j, eA, em, ec, hj, rfl, hwv, hbr⟩ := hrel
    by_cases hlj : j < sn
    · obtain ⟨b, o, rfl, hb, hc⟩ := HR.out.2 (by omega)
      have hxj : j < xs.length := by omega
      have hx4 : wr.cell? ⟨b, o + j, none⟩ = some (.int .i64 (ig xs j)) := (hbr.out.cell (p := ⟨b, o + j, none⟩) hb).trans (hc j _ (by rw [List.getElem?_map, List.getElem?_eq_getElem hxj, ig, List.getD_eq_getElem?_getD, List.getElem?_eq_getElem hxj]; rfl))
      have hfo := re_fold_take wvF ([], []) hxj
      have hmem : ig xs j ∈ xs := by simp only [ig, List.getD_eq_getElem?_getD, List.getElem?_eq_getElem hxj, Option.getD_some]; exact List.getElem_mem hxj
      have hl1' : (xs.take j).length ≤ j := by rw [List.length_take]; omega
      have hl2' := wvF_snd (xs.take j) ([], [])
      have HRC := Lib.hid (wv_reach (ig xs j) _ _ _ A n c en tp level _ _ eA em ec wr hwv.out (HWF.out _ hmem) (by omega) (by simp at hl2'; omega))
      have HE : Hid (metE (xs.take j) ((xs.take j).foldl wvF ([], [])).2 (ig xs j) = ((xs.take (j + 1)).foldl wvF ([], [])).2) := by
        show _ = _
        rw [hfo]
        show _ = metE ((xs.take j).foldl wvF ([], [])).1 _ _
        rw [wvF_fst]; rfl
      have HT : Hid (xs.take (j + 1) = xs.take j ++ [ig xs j]) := take_step hxj
      obtain ⟨x, hx⟩ : ∃ x, ig xs j = x := ⟨_, rfl⟩
      rw [hx] at hx4 HRC HE HT
      clear hc hfo hmem hl1' hl2' hx hb
      go_wp2_with (go_at_call 109; (with_reducible refine HRC.out.mono ?_); rintro e w5 ⟨rfl, ht5, eA5, em5, ec5, _, hwv5⟩; have HW5 := Lib.hid hwv5; have HT5 := Lib.hid ht5; clear hwv5 ht5)
      have HWN : Hid (WvS w5 w3.heap.size (w1.heap.size + 1) w1.heap.size A n c en tp level (xs.take (j + 1)) ((xs.take (j + 1)).foldl wvF ([], [])).2 eA5 em5 ec5) := by
        show WvS _ _ _ _ _ _ _ _ _ _ _ _ _ _ _
        rw [← HE.out, HT.out]; exact HW5.out
      have HBN : Hid (Below w.heap.size w w5) := hbr.out.trans (HT5.out.below hbr.out.size (by
        have h1 := HB3.out.size
        rintro k (rfl | rfl | hk)
        · omega
        · omega
        · have := (World.ownsRow.lt hwv.out.own k hk).1; omega))
      clear HW5 HT5 HE HT hwv hbr
      go_roundw
      case rel => exact ⟨j + 1, eA5, em5, ec5, by omega, by go_num, HWN, HBN⟩
      case measure => simp [intOf]; omega
    · obtain rfl : j = sn := by omega
      have HF : Hid (RetBg A n c en tp level xs w (.returned (.pointer (some ⟨w1.heap.size + 1, 0, none⟩))) wr) := by
        have h1 := hwv.out
        rw [List.take_of_length_le (by omega)] at h1
        exact ⟨_, _, _, eA, em, ec, rfl, by omega, by omega, hbr.out, h1⟩
      clear hwv hbr
      go_wp2_with fail
      go_ret
      exact HF.out
def sprF (ns : List ND) (level : Int) (p : List Int × List Int) (x : Int) : List Int × List Int := (nearI ns x level).foldl wvF p
theorem wv_plane {w : World} {wb bm n c em ec : Nat} {A eA : Option Addr} {en tp level : Int} (h : Blk w wb 117 (wvC A n c en tp level bm eA em ec)) : (Instr.loadAt 56 (.pointer (some ⟨wb, 0, none⟩))).run Try.prog w = .ok (.agg (pgL A n c en tp)) w :=
  row_load_mid h 0 (pgL A n c en tp) rfl Try.underlying56 rfl planeT
theorem WvS.apart {W W' : World} {EB wb bm n c em ec : Nat} {A eA : Option Addr} {en tp level : Int} {M E : List Int} (h : WvS W EB wb bm A n c en tp level M E eA em ec) (hb : Below W.heap.size W W') : WvS W' EB wb bm A n c en tp level M E eA em ec := by
  obtain ⟨h1, ⟨m, D, h2, h3, h4⟩, h5, h6, h7, h8, h9⟩ := h
  exact ⟨h1.below hb h1.lt, ⟨m, D, h2, h3.below hb, h4⟩, h5.apart fun g _ hg => hb.block g hg, h6, h7, h8, Nat.le_trans h9 hb.size⟩
theorem spr_mono (ns : List ND) (level : Int) : ∀ (l : List Int) (p : List Int × List Int), p.1.length ≤ (l.foldl (sprF ns level) p).1.length
  | [], _ => Nat.le_refl _
  | x :: l, p => by
    rw [List.foldl_cons]
    refine Nat.le_trans ?_ (spr_mono ns level l _)
    unfold sprF; rw [wvF_fst, List.length_append]; omega
theorem spr_le (ns : List ND) (level : Int) : ∀ (l : List Int) (p : List Int × List Int), p.2.length ≤ p.1.length → (l.foldl (sprF ns level) p).2.length ≤ (l.foldl (sprF ns level) p).1.length
  | [], _, h => h
  | x :: l, p, h => by
    rw [List.foldl_cons]
    refine spr_le ns level l _ ?_
    have h1 := wvF_snd (nearI ns x level) p
    unfold sprF; rw [wvF_fst, List.length_append]; omega
theorem near_there {ns : List ND} {s level y : Int} (h : y ∈ nearI ns s level) : thB ns y = true := by
  unfold nearI at h
  split at h
  · exact ((kept_mem ns _ y _ (Nat.le_refl _)).1 h).2
  · cases h
def RetSp (wb bm : Nat) (A : Option Addr) (n c : Nat) (en tp level : Int) (p : List Int × List Int) (W : World) (e : Ending) (w' : World) : Prop :=
  e = .returned (.bool (decide (0 < p.2.length))) ∧ Tch (fun k => k = wb ∨ k = bm) W w' ∧ ∃ EB eA em ec, WvS w' EB wb bm A n c en tp level p.1 p.2 eA em ec
set_option maxRecDepth 100000 in
set_option maxHeartbeats 4000000 in
theorem wv_spread (B EB wb bm : Nat) (A : Option Addr) (n c : Nat) (ns : List ND) (en tp level : Int) (M E : List Int) (eA : Option Addr) (em ec : Nat) (W : World)
    (h : WvS W EB wb bm A n c en tp level M E eA em ec) (hg : PgAt W B A n c ns) (hBw : B ≤ wb) (hBm : B ≤ bm)
    (hlim : (E.foldl (sprF ns level) (M, [])).1.length ≤ 1048576) (hel0 : E.length ≤ 1048576) :
    Calls Try.prog 88 #[.pointer (some ⟨wb, 0, none⟩)] W (RetSp wb bm A n c en tp level (E.foldl (sprF ns level) (M, [])) W) := by
  have c5 : W.cell? ⟨wb, 5, none⟩ = some (.slice eA em ec) := h.blk.cell 5
  have f5 := Blk.frozen h.blk 5
  obtain ⟨W2, hW2⟩ : ∃ x, W.setCell ⟨wb, 5, none⟩ (.slice none 0 0) = x := ⟨_, rfl⟩
  have K2 : Blk W2 wb 117 (wvC A n c en tp level bm none 0 0) := by rw [← hW2]; exact Blk.set_ h.blk 5 (.slice none 0 0)
  have T2 : Tch (fun k => k = wb) W W2 := by rw [← hW2]; exact Tch.setCell (S := fun k => k = wb) (Tch.refl _ W) rfl _ _
  have hwE := h.wE
  have hbE := h.bE
  have heW := h.eW
  have s2 := T2.size
  have O2 : OwnI W2 EB eA em ec E := OwnI.apart h.own fun g hg hs => T2.block g hs (by omega)
  have HS2 : Hid (WvS W2 W2.heap.size wb bm A n c en tp level M [] none 0 0) := by
    obtain ⟨m, D, q1, q2, q3⟩ := h.map
    exact ⟨K2, ⟨m, D, q1, MpAt.at_ q2 (T2.block bm q2.lt h.ne), q3⟩, OwnI.nil_ _ _, h.ne, by omega, by omega, Nat.le_refl _⟩
  have HT2 : Hid (Tch (fun k => k = wb ∨ k = bm) W W2) := Tch.mono T2 fun k _ q => .inl q
  have HO2 := Lib.hid O2
  have HG := Lib.hid hg
  have hem := h.own.len
  clear h hg K2 T2 O2
  go_enter Try.func88, Try.ntmps88
  go_upto_region 3 with fail
  (try rw [hW2])
  clear hW2 c5 f5
  go_wp2_with fail
  go_loopw [17] (fun s17 wr => ∃ (j : Nat) (p : List Int × List Int) (eB : Option Addr) (eb ec2 : Nat), j ≤ em ∧ s17 = .int .i64 j ∧ Hid ((E.take j).foldl (sprF ns level) (M, []) = p) ∧ Hid (WvS wr W2.heap.size wb bm A n c en tp level p.1 p.2 eB eb ec2) ∧ Hid (Tch (fun k => k = wb ∨ k = bm) W2 wr)) (fun s17 _ => em - (intOf s17).toNat)
  case atStart => exact ⟨0, (M, []), none, 0, 0, Nat.zero_le _, rfl, Lib.hid (by show _ = _; simp), HS2, Lib.hid (Tch.refl _ _)⟩
  case round =>
    obtain ⟨j, p, eB, eb, ec2, hj, rfl, hfr, hwv, ht⟩ := hrel
    by_cases hlj : j < em
    · obtain ⟨g3, hA2, hg3, hg4, hx3⟩ := OwnI.cellY HO2.out hlj
      have hx4 : wr.cell? ⟨g3, j, none⟩ = some (.int .i64 (ig E j)) := (ht.out.cell (p := ⟨g3, j, none⟩) hg4 (by show ¬ (g3 = _ ∨ g3 = _); omega)).trans hx3
      obtain ⟨x, hx⟩ : ∃ x, ig E j = x := ⟨_, rfl⟩
      rw [hx] at hx4
      have HKW := Lib.hid hwv.out.blk
      have HGW : Hid (PgAt wr wr.heap.size A n c ns) := by
        have hs := hwv.out.eW
        have h1 := (HT2.out.trans ht.out (fun k q => .inl q)).below (B := B) (by omega) (by rintro k (rfl | rfl) <;> omega)
        exact (HG.out.below h1).more (by omega)
      subst hA2
      go_upto_region 6 with fail
      refine wp_region_held_drew (S := fun w' => Below wr.heap.size wr w') (by kernel_rfl) (below_drewN (Below.refl _ wr) 1) (fun hH => ?_)
      refine wpAnyH_take (i := 0) (v := .pointer (some ⟨wb, 0, none⟩)) rfl (by kernel_rfl) (by kernel_rfl) (by kernel_rfl) (fun _ _ _ h => h) (.inl ⟨by rfl, fun _ _ => by kernel_rfl⟩) hH ?_
      (try simp only [List.getElem_toArray, List.getElem_cons_zero, Act.put, List.setIfInBounds_toArray, List.set_cons_zero, List.set_cons_succ])
      refine wpAnyH_take (i := 1) (v := .pointer (some ⟨wb, 0, none⟩)) rfl (by kernel_rfl) (by kernel_rfl) (by kernel_rfl) (fun _ _ _ h => h) (.inl ⟨by rfl, fun _ _ => by kernel_rfl⟩) hH ?_
      (try simp only [List.getElem_toArray, List.getElem_cons_zero, List.getElem_cons_succ, Act.put, List.setIfInBounds_toArray, List.set_cons_zero, List.set_cons_succ])
      refine wpAnyH_take (i := 2) (v := .pointer (some ⟨wb, 0, none⟩)) rfl (by kernel_rfl) (by kernel_rfl) (by kernel_rfl) (fun _ _ _ h => h) (.inl ⟨by rfl, fun _ _ => by kernel_rfl⟩) hH ?_
      (try simp only [List.getElem_toArray, List.getElem_cons_zero, List.getElem_cons_succ, Act.put, List.setIfInBounds_toArray, List.set_cons_zero, List.set_cons_succ])
      refine wpAnyH_take (i := 3) (v := .agg (pgL A n c en tp)) rfl (by kernel_rfl) (by kernel_rfl) (by kernel_rfl) (fun _ _ _ h => h) (yieldsIf_loadP (by rfl) _ rfl rfl (fun _ q => wv_plane (HKW.out.below q HKW.out.lt))) hH ?_
      (try simp only [List.getElem_toArray, List.getElem_cons_zero, List.getElem_cons_succ, Act.put, List.setIfInBounds_toArray, List.set_cons_zero, List.set_cons_succ])
      refine wpAnyH_take (i := 4) (v := .int .i64 x) rfl (by kernel_rfl) (by kernel_rfl) (by kernel_rfl) (fun _ _ _ h => h) (.inl ⟨by rfl, fun _ _ => by kernel_rfl⟩) hH ?_
      (try simp only [List.getElem_toArray, List.getElem_cons_zero, List.getElem_cons_succ, Act.put, List.setIfInBounds_toArray, List.set_cons_zero, List.set_cons_succ])
      refine wpAnyH_take (i := 5) (v := .pointer (some ⟨wb, 0, none⟩)) rfl (by kernel_rfl) (by kernel_rfl) (by kernel_rfl) (fun _ _ _ h => h) (.inl ⟨by rfl, fun _ _ => by kernel_rfl⟩) hH ?_
      (try simp only [List.getElem_toArray, List.getElem_cons_zero, List.getElem_cons_succ, Act.put, List.setIfInBounds_toArray, List.set_cons_zero, List.set_cons_succ])
      refine wpAnyH_take (i := 6) (v := .pointer (some ⟨wb, 0, none⟩)) rfl (by kernel_rfl) (by kernel_rfl) (by kernel_rfl) (fun _ _ _ h => h) (.inl ⟨by rfl, fun _ _ => by kernel_rfl⟩) hH ?_
      (try simp only [List.getElem_toArray, List.getElem_cons_zero, List.getElem_cons_succ, Act.put, List.setIfInBounds_toArray, List.set_cons_zero, List.set_cons_succ])
      refine wpAnyH_take (i := 7) (v := .pointer (some ⟨wb, 3, none⟩)) rfl (by kernel_rfl) (by kernel_rfl) (by kernel_rfl) (fun _ _ _ h => h) (.inl ⟨by rfl, fun _ _ => by kernel_rfl⟩) hH ?_
      (try simp only [List.getElem_toArray, List.getElem_cons_zero, List.getElem_cons_succ, Act.put, List.setIfInBounds_toArray, List.set_cons_zero, List.set_cons_succ])
      refine wpAnyH_take (i := 8) (v := .int .i64 level) rfl (by kernel_rfl) (by kernel_rfl) (by kernel_rfl) (fun _ _ _ h => h) (yieldsIf_loadP (by rfl) _ rfl rfl (fun _ q => load_i64 ((HKW.out.below q HKW.out.lt).cell 3))) hH ?_
      (try simp only [List.getElem_toArray, List.getElem_cons_zero, List.getElem_cons_succ, Act.put, List.setIfInBounds_toArray, List.set_cons_zero, List.set_cons_succ])
      refine wpAnyH_take (i := 11) (v := .int .i64 0) rfl (by kernel_rfl) (by kernel_rfl) (by kernel_rfl) (fun _ _ _ h => h) (.inl ⟨by rfl, fun _ _ => by kernel_rfl⟩) hH ?_
      (try simp only [List.getElem_toArray, List.getElem_cons_zero, List.getElem_cons_succ, Act.put, List.setIfInBounds_toArray, List.set_cons_zero, List.set_cons_succ])
      refine wpAnyH_call 9 31 #[.agg (pgL A n c en tp), .int .i64 x, .int .i64 level] _ (by kernel_rfl) (by rfl) (by kernel_rfl) (by kernel_rfl) (pl_near A n c ns en tp x level _ (HGW.out.on hH hH.size)) ?_
      rintro e Z1 ⟨A3, m3, c3, rfl, hoN, bz⟩
      have h1 : Below wr.heap.size wr Z1 := hH.trans (bz.mono hH.size)
      have HON := Lib.hid (OwnI.mono hoN hH.size)
      clear bz hoN
      refine ⟨_, rfl, h1, ?_⟩
      clear hH
      (try simp only [List.getElem_toArray, List.getElem_cons_zero, List.getElem_cons_succ, Act.put, List.setIfInBounds_toArray, List.set_cons_zero, List.set_cons_succ])
      refine wpAnyH_take (i := 10) (v := .int .i64 m3) rfl (by kernel_rfl) (by kernel_rfl) (by kernel_rfl) (fun _ _ _ h => h) (.inl ⟨by rfl, fun _ _ => by kernel_rfl⟩) h1 ?_
      (try simp only [List.getElem_toArray, List.getElem_cons_zero, List.getElem_cons_succ, Act.put, List.setIfInBounds_toArray, List.set_cons_zero, List.set_cons_succ])
      refine wpAnyH_done (by kernel_rfl) ?_ _
      have HWZ := Lib.hid (WvS.apart hwv.out h1)
      have HTZ : Hid (Tch (fun k => k = wb ∨ k = bm) W2 Z1) := ht.out.trans (Tch.of_below (S := fun k => k = wb ∨ k = bm) h1) (fun k q => .inl q)
      have hz1 := h1.size
      have hew := hwv.out.eW
      obtain ⟨L, hL⟩ : ∃ L, nearI ns x level = L := ⟨_, rfl⟩
      rw [hL] at HON
      have HROW : Hid (∀ g, A3 = some ⟨g, 0, none⟩ → Z1.heap[g]? = Z1.heap[g]? ∧ ¬ (Value.slice eB eb ec2).ownBlock = some g) := fun g hg => ⟨rfl, fun q => by
        have h2 := (World.ownsRow.lt hwv.out.own g q).2
        rcases HON.out.row with ⟨e, _⟩ | ⟨g', e, hB', _⟩
        · rw [e] at hg; cases hg
        · rw [e] at hg; injection hg with hg; injection hg with hg; omega⟩
      have hxj : j < E.length := by omega
      have hfo := re_fold_take (sprF ns level) (M, []) hxj
      rw [hfr.out, hx] at hfo
      have hmono := spr_mono ns level (E.drop (j + 1)) ((E.take (j + 1)).foldl (sprF ns level) (M, []))
      rw [← List.foldl_append, List.take_append_drop, hfo] at hmono
      have hple : p.2.length ≤ p.1.length := by rw [← hfr.out]; exact spr_le ns level _ _ (by simp)
      have hsp : sprF ns level p x = L.foldl wvF p := by unfold sprF; rw [hL]
      rw [hsp, wvF_fst, List.length_append] at hmono
      rw [hsp] at hfo
      have HWFL : Hid (∀ y ∈ L, (Lit.int .i64 y).wf = true) := fun y hy => by
        rw [← hL] at hy
        obtain ⟨k, rfl, hk⟩ := thB_nat_iff.1 (near_there hy)
        have h1 := (thN_iff.1 hk).2.1
        have h2 := HGW.out.len
        have h3 := HGW.out.2.1
        exact wf_i64 (by omega) (by omega)
      have hm3 := HON.out.len
      have HFO := Lib.hid hfo
      have hpl : p.1.length + L.length ≤ 1048576 := by omega
      clear hfo hmono hsp hL hfr hwv ht hx hx4 h1 HGW HKW
      obtain ⟨wo, hwo⟩ : ∃ wo : World, wo = wr := ⟨_, rfl⟩
      go_wp2_with fail
      go_loopw [32] (fun s32 wx => ∃ (i : Nat) (q : List Int × List Int) (eC : Option Addr) (cm cc : Nat), i ≤ m3 ∧ s32 = .int .i64 i ∧ Hid ((L.take i).foldl wvF p = q) ∧ Hid (WvS wx W2.heap.size wb bm A n c en tp level q.1 q.2 eC cm cc) ∧ Hid (Tch (fun k => k = wb ∨ k = bm) W2 wx) ∧ Hid (∀ g, A3 = some ⟨g, 0, none⟩ → wx.heap[g]? = Z1.heap[g]? ∧ ¬ (Value.slice eC cm cc).ownBlock = some g) ∧ Hid (Z1.heap.size ≤ wx.heap.size)) (fun s32 _ => m3 - (intOf s32).toNat)
      case atStart => exact ⟨0, p, eB, eb, ec2, Nat.zero_le _, rfl, Lib.hid (by show _ = _; simp), HWZ, HTZ, Lib.hid (fun g hg => ⟨rfl, (HROW.out g hg).2⟩), Lib.hid (Nat.le_refl _)⟩
      case round =>
        obtain ⟨i, q, eC, cm, cc, hi, rfl, hq, hwc, htc, hrow, hzs⟩ := hrel
        by_cases hli : i < m3
        · have HONw : OwnI wr W2.heap.size A3 m3 c3 L := by
            rcases HON.out.row with ⟨e, e0, _⟩ | ⟨g', e, hB', hnc, hcm, cs, hcs, hln, htk⟩
            · omega
            · have h2 := OwnI.of_row (hcs.at_ (hrow.out g' e).1) (Nat.le_trans hew hB') hln hcm
              rw [htk] at h2; rw [e]; exact h2
          have HG3 : Hid (∀ g, A3 = some ⟨g, 0, none⟩ → W2.heap.size ≤ g ∧ g < Z1.heap.size) := by
            intro g e
            rcases HON.out.row with ⟨e2, _⟩ | ⟨g', e2, hB', _, _, cs, hcs, _⟩
            · rw [e2] at e; cases e
            · rw [e2] at e; injection e with e; injection e with e; subst e; exact ⟨Nat.le_trans hew hB', hcs.ib.lt⟩
          obtain ⟨g, hA3, _, _, hx5⟩ := OwnI.cellY HONw hli
          have hxl : i < L.length := by omega
          have hfi := re_fold_take wvF p hxl
          rw [hq.out] at hfi
          have hq1 := wvF_fst (L.take i) p
          have hq2 := wvF_snd (L.take i) p
          rw [hq.out] at hq1 hq2
          have hq3 := congrArg List.length hq1
          rw [List.length_append, List.length_take] at hq3
          rw [List.length_take] at hq2
          obtain ⟨y, hy⟩ : ∃ y, ig L i = y := ⟨_, rfl⟩
          have hmem : y ∈ L := by rw [← hy]; simp only [ig, List.getD_eq_getElem?_getD, List.getElem?_eq_getElem hxl, Option.getD_some]; exact List.getElem_mem hxl
          rw [hy] at hx5 hfi
          have HRC := Lib.hid (wv_reach y _ _ _ A n c en tp level q.1 q.2 eC cm cc wr hwc.out (HWFL.out y hmem) (by omega) (by omega))
          have HFI := Lib.hid hfi
          clear hfi hq1 hq2 hq3 hy hmem HONw hq
          subst hA3
          go_wp2_with (go_at_call 109; (with_reducible refine HRC.out.mono ?_); rintro e w5 ⟨rfl, ht5, eC5, cm5, cc5, hob5, hwv5⟩; have HW5 := Lib.hid hwv5; have HT5 := Lib.hid ht5; have HOB5 := Lib.hid hob5; clear hwv5 ht5 hob5)
          have HTN : Hid (Tch (fun k => k = wb ∨ k = bm) W2 w5) := htc.out.trans HT5.out (by
            rintro k (h2 | h2 | h2)
            · exact .inl (.inl h2)
            · exact .inl (.inr h2)
            · exact .inr (World.ownsRow.lt hwc.out.own k h2).1)
          have hzo := hzs.out
          have HRN : Hid (∀ g', (some ⟨g, 0, none⟩ : Option Addr) = some ⟨g', 0, none⟩ → w5.heap[g']? = Z1.heap[g']? ∧ ¬ (Value.slice eC5 cm5 cc5).ownBlock = some g') := fun g' e => by
            have h2 := HG3.out g' e
            have h3 := hrow.out g' e
            refine ⟨(HT5.out.block g' (by omega) (by rintro (q1 | q1 | q1); omega; omega; exact h3.2 q1)).trans h3.1, fun q1 => ?_⟩
            rcases HOB5.out g' q1 with q2 | q2
            · exact h3.2 q2
            · omega
          have HZN : Hid (Z1.heap.size ≤ w5.heap.size) := Nat.le_trans hzo HT5.out.size
          clear HT5 HOB5 hwc htc hrow hx5
          go_roundw
          case rel => exact ⟨i + 1, wvF q y, eC5, cm5, cc5, by omega, by go_num, HFI, HW5, HTN, HRN, HZN⟩
          case measure => simp [intOf]; omega
        · obtain rfl : i = m3 := by omega
          have HQ : Hid ((E.take (j + 1)).foldl (sprF ns level) (M, []) = q) := by
            show _ = _
            rw [HFO.out, ← hq.out, List.take_of_length_le (by omega)]
          clear hq hrow hzs HFO HWFL HON
          go_wp2_with fail
          go_roundw
          case rel => exact ⟨j + 1, q, eC, cm, cc, by omega, by go_num, HQ, hwc, htc⟩
          case measure => simp [intOf]; omega
    · obtain rfl : j = em := by omega
      have hfin : Hid (E.foldl (sprF ns level) (M, []) = p) := by
        show _ = _
        rw [← hfr.out, List.take_of_length_le (by omega)]
      have c5 : wr.cell? ⟨wb, 5, none⟩ = some (.slice eB eb ec2) := hwv.out.blk.cell 5
      have hel := hwv.out.own.len
      have HQ : Hid (RetSp wb bm A n c en tp level (E.foldl (sprF ns level) (M, [])) W (.returned (.bool (decide (0 < eb)))) wr) := by
        show RetSp _ _ _ _ _ _ _ _ _ _ _ _
        rw [hfin.out]
        exact ⟨by rw [hel], (HT2.out.trans ht.out (fun k q => .inl q)), _, eB, eb, ec2, hwv.out⟩
      clear hfr hwv ht
      go_wp2_with fail
      go_ret
      exact HQ.out
/-- The document's step. -/
def stepI (ns : List ND) (level : Int) (l : List Int) : List Int := l.foldl (fun out x => (nearI ns x level).foldl withI out) l
def bI (ns : List ND) (level : Int) (xs : List Int) : Nat → List Int
  | 0 => xs
  | k + 1 => stepI ns level (bI ns level xs k)
theorem mem_withI {l : List Int} {v x : Int} : x ∈ withI l v ↔ x ∈ l ∨ x = v := by
  unfold withI
  split
  · rename_i h
    rw [hasI_iff] at h
    exact ⟨.inl, fun q => q.elim id fun e => e ▸ h⟩
  · simp
theorem mem_foldWith : ∀ (L l : List Int) (x : Int), x ∈ L.foldl withI l ↔ x ∈ l ∨ x ∈ L
  | [], l, x => by simp
  | y :: L, l, x => by rw [List.foldl_cons, mem_foldWith L, mem_withI]; simp [or_assoc]
theorem len_withI (l : List Int) (v : Int) : l.length ≤ (withI l v).length ∧ ((withI l v).length = l.length → v ∈ l) ∧ (v ∈ l → withI l v = l) := by
  unfold withI
  cases h : hasI l v with
  | true => exact ⟨Nat.le_refl _, fun _ => hasI_iff.1 h, fun _ => rfl⟩
  | false =>
    refine ⟨by simp, fun q => ?_, fun q => ?_⟩
    · simp at q
    · rw [hasI_iff.2 q] at h; cases h
theorem len_foldWith : ∀ (L l : List Int), l.length ≤ (L.foldl withI l).length ∧ ((L.foldl withI l).length = l.length → ∀ x ∈ L, x ∈ l) ∧ ((∀ x ∈ L, x ∈ l) → L.foldl withI l = l)
  | [], l => ⟨Nat.le_refl _, fun _ => (by simp), fun _ => rfl⟩
  | y :: L, l => by
    obtain ⟨a1, a2, a3⟩ := len_withI l y
    obtain ⟨b1, b2, b3⟩ := len_foldWith L (withI l y)
    rw [List.foldl_cons]
    refine ⟨Nat.le_trans a1 b1, fun q x hx => ?_, fun q => ?_⟩
    · have hy : y ∈ l := a2 (by omega)
      rw [a3 hy] at b2 q
      rcases List.mem_cons.1 hx with rfl | hx
      · exact hy
      · exact b2 q x hx
    · rw [a3 (q y List.mem_cons_self)] at b3 ⊢
      exact b3 fun x hx => q x (List.mem_cons_of_mem _ hx)
/-- All that a list's members are next to. -/
def nextI (ns : List ND) (level : Int) (l : List Int) : List Int := (l.map fun x => nearI ns x level).flatten
theorem mem_nextI {ns : List ND} {level : Int} {l : List Int} {y : Int} : y ∈ nextI ns level l ↔ ∃ x ∈ l, y ∈ nearI ns x level := by
  unfold nextI
  rw [List.mem_flatten]
  exact ⟨fun ⟨_, h1, h2⟩ => by obtain ⟨x, hx, rfl⟩ := List.mem_map.1 h1; exact ⟨x, hx, h2⟩, fun ⟨x, hx, h2⟩ => ⟨_, List.mem_map.2 ⟨x, hx, rfl⟩, h2⟩⟩
theorem fold_flat {α β : Type} (f : β → α → β) (g : Int → List α) : ∀ (l : List Int) (b : β), l.foldl (fun out x => (g x).foldl f out) b = ((l.map g).flatten).foldl f b
  | [], b => rfl
  | x :: l, b => by rw [List.foldl_cons, fold_flat f g l, List.map_cons, List.flatten_cons, List.foldl_append]
theorem stepI_eq (ns : List ND) (level : Int) (l : List Int) : stepI ns level l = (nextI ns level l).foldl withI l := fold_flat withI (fun x => nearI ns x level) l l
theorem spr_eq (ns : List ND) (level : Int) (l : List Int) (p : List Int × List Int) : l.foldl (sprF ns level) p = (nextI ns level l).foldl wvF p := fold_flat wvF (fun x => nearI ns x level) l p
theorem mem_stepI {ns : List ND} {level : Int} {l : List Int} {y : Int} : y ∈ stepI ns level l ↔ y ∈ l ∨ ∃ x ∈ l, y ∈ nearI ns x level := by rw [stepI_eq, mem_foldWith, mem_nextI]
theorem stepI_len (ns : List ND) (level : Int) (l : List Int) : l.length ≤ (stepI ns level l).length := by rw [stepI_eq]; exact (len_foldWith _ _).1
theorem stepI_same {ns : List ND} {level : Int} {l : List Int} (h : (stepI ns level l).length = l.length) : stepI ns level l = l := by
  rw [stepI_eq] at h ⊢
  exact (len_foldWith _ _).2.2 ((len_foldWith _ _).2.1 h)
theorem stepI_shut {ns : List ND} {level : Int} {l : List Int} : stepI ns level l = l ↔ ∀ y ∈ nextI ns level l, y ∈ l := by
  rw [stepI_eq]
  exact ⟨fun h => (len_foldWith _ _).2.1 (by rw [h]), (len_foldWith _ _).2.2⟩
theorem mem_metE {M E : List Int} {x y : Int} : y ∈ metE M E x ↔ y ∈ E ∨ (y = x ∧ x ∉ M) := by
  unfold metE
  split
  · rename_i h
    rw [hasI_iff] at h
    exact ⟨.inl, fun q => q.elim id fun e => absurd h e.2⟩
  · rename_i h
    rw [hasI_iff] at h
    simp only [List.mem_append, List.mem_singleton]
    exact ⟨fun q => q.imp id fun e => ⟨e, h⟩, fun q => q.imp id fun e => e.1⟩
theorem wvF_sub {p : List Int × List Int} (hE : ∀ x ∈ p.2, x ∈ p.1) (x : Int) : ∀ y ∈ (wvF p x).2, y ∈ (wvF p x).1 := by
  intro y hy
  rcases mem_metE.1 hy with q | ⟨rfl, _⟩
  · exact List.mem_append_left _ (hE y q)
  · simp [wvF]
theorem mem_wvF : ∀ (L : List Int) (p : List Int × List Int), (∀ x ∈ p.2, x ∈ p.1) → ∀ y, y ∈ (L.foldl wvF p).2 ↔ y ∈ p.2 ∨ (y ∈ L ∧ y ∉ p.1)
  | [], p, _, y => by simp
  | x :: L, p, hE, y => by
    rw [List.foldl_cons, mem_wvF L _ (wvF_sub hE x)]
    have h1 : y ∈ (wvF p x).2 ↔ y ∈ p.2 ∨ (y = x ∧ x ∉ p.1) := mem_metE
    have h2 : y ∈ (wvF p x).1 ↔ y ∈ p.1 ∨ y = x := by simp [wvF]
    rw [h1, h2, List.mem_cons]
    constructor
    · rintro ((q | ⟨rfl, q⟩) | ⟨q1, q2⟩)
      · exact .inl q
      · exact .inr ⟨.inl rfl, q⟩
      · exact .inr ⟨.inr q1, fun q => q2 (.inl q)⟩
    · rintro (q | ⟨rfl | q1, q2⟩)
      · exact .inl (.inl q)
      · exact .inl (.inr ⟨rfl, q2⟩)
      · by_cases e : y = x
        · subst e; exact .inl (.inr ⟨rfl, q2⟩)
        · exact .inr ⟨q1, fun q => q.elim q2 e⟩
theorem sub_wvF : ∀ (L : List Int) (p : List Int × List Int), (∀ x ∈ p.2, x ∈ p.1) → ∀ y ∈ (L.foldl wvF p).2, y ∈ (L.foldl wvF p).1
  | [], _, h => h
  | x :: L, p, h => by rw [List.foldl_cons]; exact sub_wvF L _ (wvF_sub h x)
theorem nodup_wvF : ∀ (L : List Int) (p : List Int × List Int), (∀ x ∈ p.2, x ∈ p.1) → p.2.Nodup → (L.foldl wvF p).2.Nodup
  | [], _, _, h => h
  | x :: L, p, hE, h => by
    rw [List.foldl_cons]
    refine nodup_wvF L _ (wvF_sub hE x) ?_
    show (metE p.1 p.2 x).Nodup
    unfold metE
    split
    · exact h
    · rename_i q
      rw [hasI_iff] at q
      refine List.nodup_append.2 ⟨h, by simp, fun a ha b hb e => ?_⟩
      simp only [List.mem_singleton] at hb
      subst hb; subst e
      exact q (hE _ ha)
/-- The program's rounds. -/
def rI (ns : List ND) (level : Int) (xs : List Int) : Nat → List Int × List Int
  | 0 => xs.foldl wvF ([], [])
  | k + 1 => (rI ns level xs k).2.foldl (sprF ns level) ((rI ns level xs k).1, [])
structure RInv (ns : List ND) (level : Int) (b : List Int) (p : List Int × List Int) : Prop where
  mem : ∀ y, y ∈ p.1 ↔ y ∈ b
  sub : ∀ y ∈ p.2, y ∈ p.1
  nd : p.2.Nodup
  in_ : ∀ x ∈ p.1, x ∉ p.2 → ∀ y ∈ nearI ns x level, y ∈ p.1
theorem rI_inv (ns : List ND) (level : Int) (xs : List Int) : ∀ k, RInv ns level (bI ns level xs k) (rI ns level xs k)
  | 0 => by
    have h1 : (xs.foldl wvF ([], [])).1 = xs := by rw [wvF_fst]; rfl
    refine ⟨fun y => by show y ∈ (xs.foldl wvF ([], [])).1 ↔ _; rw [h1]; exact Iff.rfl, sub_wvF xs _ (fun _ h => by cases h), nodup_wvF xs _ (fun _ h => by cases h) List.nodup_nil, fun x hx hn => ?_⟩
    refine absurd ?_ hn
    rw [show (rI ns level xs 0) = xs.foldl wvF ([], []) from rfl, h1] at hx
    exact (mem_wvF xs ([], []) (fun _ h => by cases h) x).2 (.inr ⟨hx, by simp⟩)
  | k + 1 => by
    have ih := rI_inv ns level xs k
    have he : rI ns level xs (k + 1) = (nextI ns level (rI ns level xs k).2).foldl wvF ((rI ns level xs k).1, []) := spr_eq _ _ _ _
    generalize rI ns level xs k = p at ih he
    have h1 : (rI ns level xs (k + 1)).1 = p.1 ++ nextI ns level p.2 := by rw [he, wvF_fst]
    have h2 : ∀ y, y ∈ (rI ns level xs (k + 1)).2 ↔ y ∈ nextI ns level p.2 ∧ y ∉ p.1 := fun y => by
      rw [he, mem_wvF _ _ (fun _ h => by cases h)]; simp
    refine ⟨fun y => ?_, by rw [he]; exact sub_wvF _ _ (fun _ h => by cases h), by rw [he]; exact nodup_wvF _ _ (fun _ h => by cases h) List.nodup_nil, fun x hx hn y hy => ?_⟩
    · rw [h1, List.mem_append, show bI ns level xs (k + 1) = stepI ns level (bI ns level xs k) from rfl, mem_stepI, ← ih.mem, mem_nextI]
      constructor
      · rintro (q | ⟨x, q1, q2⟩)
        · exact .inl q
        · exact .inr ⟨x, (ih.mem x).1 (ih.sub x q1), q2⟩
      · rintro (q | ⟨x, q1, q2⟩)
        · exact .inl q
        · have q3 := (ih.mem x).2 q1
          by_cases q4 : x ∈ p.2
          · exact .inr ⟨x, q4, q2⟩
          · exact .inl (ih.in_ x q3 q4 y q2)
    · rw [h1] at hx ⊢
      rw [h2] at hn
      have hxp : x ∈ p.1 := by
        rcases List.mem_append.1 hx with q | q
        · exact q
        · exact Classical.byContradiction fun q2 => hn ⟨q, q2⟩
      by_cases q4 : x ∈ p.2
      · exact List.mem_append_right _ (mem_nextI.2 ⟨x, q4, hy⟩)
      · exact List.mem_append_left _ (ih.in_ x hxp q4 y hy)
/-- A round adds nothing: as the program and as the document see it. -/
theorem rI_shut {ns : List ND} {level : Int} {xs : List Int} {k : Nat} : (rI ns level xs (k + 1)).2 = [] ↔ stepI ns level (bI ns level xs k) = bI ns level xs k := by
  have ih := rI_inv ns level xs k
  have he : rI ns level xs (k + 1) = (nextI ns level (rI ns level xs k).2).foldl wvF ((rI ns level xs k).1, []) := spr_eq _ _ _ _
  rw [stepI_shut, he]
  generalize rI ns level xs k = p at ih he
  have h2 : ∀ y, y ∈ ((nextI ns level p.2).foldl wvF (p.1, [])).2 ↔ y ∈ nextI ns level p.2 ∧ y ∉ p.1 := fun y => by rw [mem_wvF _ _ (fun _ h => by cases h)]; simp
  constructor
  · intro q y hy
    obtain ⟨x, q1, q2⟩ := mem_nextI.1 hy
    rw [← ih.mem] at q1 ⊢
    by_cases q4 : x ∈ p.2
    · refine Classical.byContradiction fun q5 => ?_
      have := (h2 y).2 ⟨mem_nextI.2 ⟨x, q4, q2⟩, q5⟩
      rw [q] at this; cases this
    · exact ih.in_ x q1 q4 y q2
  · intro q
    refine List.eq_nil_iff_forall_not_mem.2 fun y hy => ?_
    obtain ⟨q1, q2⟩ := (h2 y).1 hy
    obtain ⟨x, q3, q4⟩ := mem_nextI.1 q1
    exact q2 ((ih.mem y).2 (q y (mem_nextI.2 ⟨x, (ih.mem x).1 (ih.sub x q3), q4⟩)))
/-- How many slots are not met. -/
def unI (ns : List ND) (b : List Int) : Nat := ((liveI ns).filter fun y => !hasI b y).length
theorem mem_liveI {ns : List ND} {y : Int} : y ∈ liveI ns ↔ thB ns y = true := by
  unfold liveI lvI
  rw [List.mem_map, thB_nat_iff]
  constructor
  · rintro ⟨k, hk, rfl⟩
    exact ⟨k, rfl, (List.mem_filter.1 hk).2⟩
  · rintro ⟨k, rfl, hk⟩
    exact ⟨k, List.mem_filter.2 ⟨List.mem_range.2 (thN_iff.1 hk).2.1, hk⟩, rfl⟩
theorem nodup_liveI (ns : List ND) : (liveI ns).Nodup := by
  unfold liveI lvI
  refine List.Pairwise.map _ (fun a b (h : a ≠ b) => ?_) (List.nodup_range.filter _)
  omega
theorem liveI_le (ns : List ND) : (liveI ns).length ≤ ns.length := lvI_le ns _
theorem unI_le (ns : List ND) (b : List Int) : unI ns b ≤ ns.length := Nat.le_trans (List.length_filter_le _ _) (liveI_le ns)
theorem hasI_congr {a b : List Int} (h : ∀ y, y ∈ a ↔ y ∈ b) (y : Int) : hasI a y = hasI b y := by
  rw [Bool.eq_iff_iff, hasI_iff, hasI_iff]; exact h y
theorem unI_congr {ns : List ND} {a b : List Int} (h : ∀ y, y ∈ a ↔ y ∈ b) : unI ns a = unI ns b := by
  unfold unI; simp only [hasI_congr h]
theorem len_sub : ∀ (a b : List Int), a.Nodup → (∀ x ∈ a, x ∈ b) → a.length ≤ b.length
  | [], b, _, _ => Nat.zero_le _
  | x :: a, b, hn, hs => by
    have hx := hs x List.mem_cons_self
    have h1 := List.nodup_cons.1 hn
    have h2 := len_sub a (b.erase x) h1.2 fun y hy => (List.mem_erase_of_ne (by rintro rfl; exact h1.1 hy)).2 (hs y (List.mem_cons_of_mem _ hy))
    rw [List.length_erase_of_mem hx] at h2
    have : 0 < b.length := List.length_pos_of_mem hx
    rw [List.length_cons]; omega
theorem unI_more {ns : List ND} {b b' E : List Int} (hb : ∀ y ∈ b, y ∈ b') (hn : E.Nodup) (hE : ∀ y ∈ E, thB ns y = true ∧ y ∈ b' ∧ y ∉ b) : unI ns b' + E.length ≤ unI ns b := by
  unfold unI
  rw [Nat.add_comm, ← List.length_append]
  refine len_sub _ _ (List.nodup_append.2 ⟨hn, (nodup_liveI ns).filter _, fun a ha c hc e => ?_⟩) fun y hy => ?_
  · subst e
    have := (List.mem_filter.1 hc).2
    rw [hasI_iff.2 (hE a ha).2.1] at this; cases this
  · rcases List.mem_append.1 hy with q | q
    · obtain ⟨q1, q2, q3⟩ := hE y q
      refine List.mem_filter.2 ⟨mem_liveI.2 q1, ?_⟩
      cases e : hasI b y with
      | true => exact absurd (hasI_iff.1 e) q3
      | false => rfl
    · obtain ⟨q1, q2⟩ := List.mem_filter.1 q
      refine List.mem_filter.2 ⟨q1, ?_⟩
      cases e : hasI b y with
      | true => rw [hasI_iff.2 (hb y (hasI_iff.1 e))] at q2; cases q2
      | false => rfl
theorem rI_edge (ns : List ND) (level : Int) (xs : List Int) (k : Nat) : unI ns (bI ns level xs (k + 1)) + (rI ns level xs (k + 1)).2.length ≤ unI ns (bI ns level xs k) := by
  have ih := rI_inv ns level xs k
  have ih1 := rI_inv ns level xs (k + 1)
  have he : rI ns level xs (k + 1) = (nextI ns level (rI ns level xs k).2).foldl wvF ((rI ns level xs k).1, []) := spr_eq _ _ _ _
  refine unI_more (fun y hy => mem_stepI.2 (.inl hy)) ih1.nd fun y hy => ?_
  have h2 := hy
  rw [he, mem_wvF _ _ (fun _ h => by cases h)] at h2
  rcases h2 with h2 | ⟨h2, h3⟩
  · cases h2
  · obtain ⟨x, _, q⟩ := mem_nextI.1 h2
    exact ⟨near_there q, (ih1.mem y).1 (ih1.sub y hy), fun q2 => h3 ((ih.mem y).2 q2)⟩
theorem rI_less {ns : List ND} {level : Int} {xs : List Int} {k : Nat} (h : stepI ns level (bI ns level xs k) ≠ bI ns level xs k) : unI ns (bI ns level xs (k + 1)) < unI ns (bI ns level xs k) := by
  have h1 := rI_edge ns level xs k
  have h2 : 0 < (rI ns level xs (k + 1)).2.length := List.length_pos_iff.2 fun e => h (rI_shut.1 e)
  omega
theorem next_le {ns : List ND} {level : Int} {d : Nat} (hd : ∀ s, (nearI ns s level).length ≤ d) : ∀ (l : List Int), (nextI ns level l).length ≤ d * l.length
  | [] => by simp [nextI]
  | x :: l => by
    have h1 := next_le hd l
    have h2 := hd x
    unfold nextI at h1 ⊢
    rw [List.map_cons, List.flatten_cons, List.length_append, List.length_cons, Nat.mul_succ]
    omega
theorem rI_bound {ns : List ND} {level : Int} {d : Nat} (hd : ∀ s, (nearI ns s level).length ≤ d) (xs : List Int) : ∀ k, (rI ns level xs k).1.length + d * ((rI ns level xs k).2.length + unI ns (bI ns level xs k)) ≤ xs.length + d * (xs.length + ns.length)
  | 0 => by
    have h1 : (xs.foldl wvF ([], [])).1 = xs := by rw [wvF_fst]; rfl
    have h2 := wvF_snd xs ([], [])
    have h3 := unI_le ns xs
    show (xs.foldl wvF ([], [])).1.length + d * ((xs.foldl wvF ([], [])).2.length + unI ns xs) ≤ _
    rw [h1]
    refine Nat.add_le_add_left (Nat.mul_le_mul_left _ ?_) _
    simp at h2; omega
  | k + 1 => by
    have ih := rI_bound hd xs k
    have h1 := rI_edge ns level xs k
    have he : rI ns level xs (k + 1) = (nextI ns level (rI ns level xs k).2).foldl wvF ((rI ns level xs k).1, []) := spr_eq _ _ _ _
    have h2 := next_le hd (rI ns level xs k).2
    have h3 : (rI ns level xs (k + 1)).1.length = (rI ns level xs k).1.length + (nextI ns level (rI ns level xs k).2).length := by rw [he, wvF_fst, List.length_append]
    have h4 : d * ((rI ns level xs (k + 1)).2.length + unI ns (bI ns level xs (k + 1))) ≤ d * unI ns (bI ns level xs k) := Nat.mul_le_mul_left _ (by omega)
    rw [Nat.mul_add] at ih
    omega
theorem rI_le (ns : List ND) (level : Int) (xs : List Int) : ∀ k, (rI ns level xs k).2.length ≤ (rI ns level xs k).1.length
  | k => len_sub _ _ (rI_inv ns level xs k).nd (rI_inv ns level xs k).sub
theorem bI_stay {ns : List ND} {level : Int} {xs : List Int} {k : Nat} (h : stepI ns level (bI ns level xs k) = bI ns level xs k) : ∀ j, bI ns level xs (k + j) = bI ns level xs k
  | 0 => rfl
  | j + 1 => by
    show stepI ns level (bI ns level xs (k + j)) = _
    rw [bI_stay h j, h]
theorem bI_shuts (ns : List ND) (level : Int) (xs : List Int) : ∀ m k, unI ns (bI ns level xs k) ≤ m → ∃ j, j ≤ m ∧ stepI ns level (bI ns level xs (k + j)) = bI ns level xs (k + j)
  | 0, k, h => ⟨0, Nat.le_refl _, Classical.byContradiction fun q => by have := rI_less (k := k) q; omega⟩
  | m + 1, k, h => by
    by_cases q : stepI ns level (bI ns level xs k) = bI ns level xs k
    · exact ⟨0, Nat.zero_le _, q⟩
    · have h1 := rI_less q
      obtain ⟨j, hj, h2⟩ := bI_shuts ns level xs m (k + 1) (by omega)
      exact ⟨j + 1, by omega, by rw [show k + (j + 1) = k + 1 + j from by omega]; exact h2⟩
/-- All that is reached. -/
def clI (ns : List ND) (level : Int) (xs : List Int) : List Int := bI ns level xs ns.length
theorem clI_shut (ns : List ND) (level : Int) (xs : List Int) : stepI ns level (clI ns level xs) = clI ns level xs := by
  obtain ⟨j, hj, h⟩ := bI_shuts ns level xs ns.length 0 (unI_le _ _)
  rw [Nat.zero_add] at h
  have h1 := bI_stay h (ns.length - j)
  rw [show j + (ns.length - j) = ns.length from by omega] at h1
  unfold clI
  rw [h1, h]
theorem clI_of {ns : List ND} {level : Int} {xs : List Int} {k : Nat} (h : stepI ns level (bI ns level xs k) = bI ns level xs k) : bI ns level xs k = clI ns level xs := by
  rcases Nat.le_total k ns.length with q | q
  · have h1 := bI_stay h (ns.length - k)
    rw [show k + (ns.length - k) = ns.length from by omega] at h1
    exact h1.symm
  · have h1 := bI_stay (clI_shut ns level xs) (k - ns.length)
    rw [show ns.length + (k - ns.length) = k from by omega] at h1
    exact h1
theorem bI_mono {ns : List ND} {level : Int} {xs : List Int} {y : Int} {k : Nat} (h : y ∈ bI ns level xs k) : ∀ j, y ∈ bI ns level xs (k + j)
  | 0 => h
  | j + 1 => mem_stepI.2 (.inl (bI_mono h j))
theorem bI_cl {ns : List ND} {level : Int} {xs : List Int} {y : Int} {k : Nat} (h : y ∈ bI ns level xs k) : y ∈ clI ns level xs := by
  rcases Nat.le_total k ns.length with q | q
  · have h1 := bI_mono h (ns.length - k)
    rw [show k + (ns.length - k) = ns.length from by omega] at h1
    exact h1
  · have h1 := bI_stay (clI_shut ns level xs) (k - ns.length)
    rw [show ns.length + (k - ns.length) = k from by omega] at h1
    rw [h1] at h
    exact h
def fromI (ns : List ND) (level : Int) (xs : List Int) : List Int := (liveI ns).filter (hasI (clI ns level xs))
def wholeI (ns : List ND) : Bool := decide ((fromI ns 0 [0]).length = (liveI ns).length)
/-- How many steps, and whether there are any. -/
def StR (ns : List ND) (level a b : Int) (r : Int) (is : Bool) : Prop :=
  (is = true ∧ thB ns b = true ∧ ∃ k : Nat, r = k ∧ b ∈ bI ns level [a] k ∧ ∀ j, j < k → b ∉ bI ns level [a] j) ∨ (is = false ∧ r = 0 ∧ (thB ns b = false ∨ b ∉ clI ns level [a]))
theorem StR.uniq {ns : List ND} {level a b r r' : Int} {is is' : Bool} (h : StR ns level a b r is) (h' : StR ns level a b r' is') : r = r' ∧ is = is' := by
  rcases h with ⟨rfl, h1, k, rfl, h2, h3⟩ | ⟨rfl, rfl, h1⟩ <;> rcases h' with ⟨rfl, g1, k', rfl, g2, g3⟩ | ⟨rfl, rfl, g1⟩
  · refine ⟨?_, rfl⟩
    rcases Nat.lt_trichotomy k k' with q | q | q
    · exact absurd h2 (g3 k q)
    · rw [q]
    · exact absurd g2 (h3 k' q)
  · rcases g1 with g1 | g1
    · rw [h1] at g1; cases g1
    · exact absurd (bI_cl h2) g1
  · rcases h1 with h1 | h1
    · rw [g1] at h1; cases h1
    · exact absurd (bI_cl g2) h1
  · exact ⟨rfl, rfl⟩
def grpF (ns : List ND) (level : Int) (p : List (List Int) × List Int) (s : Int) : List (List Int) × List Int :=
  if decide ((nAt ns s.toNat).level < level) || hasI p.2 s then p else (p.1 ++ [fromI ns level [s]], p.2 ++ fromI ns level [s])
def grpI (ns : List ND) (level : Int) : List (List Int) := ((liveI ns).foldl (grpF ns level) ([], [])).1
theorem filt_take {q : Int → Bool} {l : List Int} {j : Nat} (hj : j < l.length) : (l.take (j + 1)).filter q = (l.take j).filter q ++ if q (ig l j) then [ig l j] else [] := by
  rw [take_step hj, List.filter_append]
  congr 1
  cases h : q (ig l j) <;> simp [h]
theorem wf_live {w : World} {B n c : Nat} {A : Option Addr} {ns : List ND} (hg : PgAt w B A n c ns) {x : Int} (hx : x ∈ liveI ns) : (Lit.int .i64 x).wf = true := by
  obtain ⟨k, rfl, hk⟩ := thB_nat_iff.1 (mem_liveI.1 hx)
  have h1 := (thN_iff.1 hk).2.1
  have h2 := hg.len
  have h3 := hg.2.1
  exact wf_i64 (by omega) (by omega)
theorem Tch_pl {w w' : World} {B b n c : Nat} {wb bm : Nat} {A : Option Addr} {ns : List ND} (hg : PgAt w B A n c ns) (ht : Tch (fun k => k = wb ∨ k = bm) w w') (hB : B ≤ w.heap.size) (h1 : B ≤ wb) (h2 : B ≤ bm) (hb : B ≤ b) : PgAt w' b A n c ns :=
  (hg.below (ht.below hB (by rintro k (rfl | rfl) <;> omega))).more hb
set_option maxRecDepth 100000 in
set_option maxHeartbeats 4000000 in
theorem pl_from (d : Nat) (A : Option Addr) (n c : Nat) (ns : List ND) (en tp level : Int) (sA : Option Addr) (sn sc : Nat) (xs : List Int) (w : World) (hg : PgAt w w.heap.size A n c ns)
    (hr : Rd w w.heap.size sA sn (xs.map (.int .i64))) (hwf : ∀ x ∈ xs, (Lit.int .i64 x).wf = true) (hd : ∀ s, (nearI ns s level).length ≤ d) (hC : xs.length + d * (xs.length + ns.length) ≤ 1048576) :
    Calls Try.prog 54 #[.agg (pgL A n c en tp), .slice sA sn sc, .int .i64 level] w (RetI (fromI ns level xs) w) := by
  obtain ⟨w1, hw1⟩ : ∃ x, w.alloc (.cells (pgL A n c en tp) 56) = x := ⟨_, rfl⟩
  obtain ⟨C1, b1⟩ := box_plane hw1
  have LP := plane_load C1
  have hsn : sn ≤ 1048576 := by have := hr.lenI; omega
  have HBG := wv_begin A n c en tp level sA sn sc xs w1 ((hr.below b1).more b1.size) hsn hwf
  have HG := Lib.hid (hg.on b1 b1.size)
  have HB := Lib.hid b1
  have HC := Lib.hid C1
  have HBD := Lib.hid (fun k => rI_bound hd xs k)
  have HCC := Lib.hid hC
  have hbl := C1.lt
  clear hg C1 b1 hr hwf hd hC
  unfold pgL at hw1 LP HBG ⊢
  replace HBG := Lib.hid HBG
  go_enter Try.func54, Try.ntmps54
  go_upto_region 1 with fail
  (try rw [hw1])
  clear hw1
  go_wp2_with (first
    | refine wpList_loadE LP _ rfl rfl rfl ?_
    | (go_at_call 87; (with_reducible refine HBG.out.mono ?_); rintro e w2 ⟨EB, wb, bm, eA, em, ec, rfl, hwb, hbm, b2, hwv⟩; have HB2 := Lib.hid b2; have HW2 := Lib.hid hwv; clear b2 hwv))
  have HG2 := Lib.hid (HG.out.below HB2.out)
  have HC2 := Lib.hid (HC.out.below HB2.out hbl)
  have hs2 := HB2.out.size
  clear HG HC HBG LP
  go_loopg [] (unI ns xs + 1) (fun k wr => ∃ (i EB : Nat) (eA : Option Addr) (em ec : Nat), unI ns (bI ns level xs i) < k ∧ Hid (WvS wr EB wb bm A n c en tp level (rI ns level xs i).1 (rI ns level xs i).2 eA em ec) ∧ Hid (Tch (fun k => k = wb ∨ k = bm) w2 wr))
  case atStart => exact ⟨0, EB, eA, em, ec, Nat.lt_succ_self _, Lib.hid (by show WvS _ _ _ _ _ _ _ _ _ _ _ _ _ _ _; have h1 := HW2.out; rw [show (rI ns level xs 0).1 = xs from by rw [show rI ns level xs 0 = xs.foldl wvF ([], []) from rfl, wvF_fst]; rfl]; exact h1), Lib.hid (Tch.refl _ _)⟩
  case round =>
    obtain ⟨i, EB, eA, em, ec, hk, hwv, ht⟩ := hrel
    have hb0 := HBD.out i
    have hb1 := HBD.out (i + 1)
    have hcc := HCC.out
    have hrl := rI_le ns level xs i
    have hsz := ht.out.size
    have HSP := wv_spread w1.heap.size EB wb bm A n c ns en tp level _ _ eA em ec wr hwv.out (Tch_pl HG2.out ht.out (by omega) hwb hbm (Nat.le_refl _)) hwb hbm (by show (rI ns level xs (i + 1)).1.length ≤ _; omega) (by omega)
    have HX : Hid ((rI ns level xs i).2.foldl (sprF ns level) ((rI ns level xs i).1, []) = rI ns level xs (i + 1)) := rfl
    rw [HX.out] at HSP
    have HIV := Lib.hid (rI_inv ns level xs (i + 1))
    have HED := Lib.hid (rI_edge ns level xs i)
    have HSH := Lib.hid (@rI_shut ns level xs i)
    obtain ⟨p, hp⟩ : ∃ p, rI ns level xs (i + 1) = p := ⟨_, rfl⟩
    rw [hp] at HSP HIV HED HSH hb1
    have HP := Lib.hid hp
    by_cases h0 : 0 < p.2.length
    · unfold RetSp at HSP
      rw [decide_eq_true h0] at HSP
      replace HSP := Lib.hid HSP
      clear hp HX HIV HSH hwv hb0 hb1 hcc
      go_wp2_with (go_at_call 88; (with_reducible refine HSP.out.mono ?_); rintro e w3 ⟨rfl, ht3, EB3, eA3, em3, ec3, hwv3⟩; have HT3 := Lib.hid ht3; have HW3 := Lib.hid hwv3; clear ht3 hwv3)
      have HWN : Hid (WvS w3 EB3 wb bm A n c en tp level (rI ns level xs (i + 1)).1 (rI ns level xs (i + 1)).2 eA3 em3 ec3) := by
        show WvS _ _ _ _ _ _ _ _ _ _ _ _ _ _ _
        rw [HP.out]; exact HW3.out
      have HTN := Lib.hid (ht.out.trans HT3.out (fun k q => .inl q))
      have hless : unI ns (bI ns level xs (i + 1)) < unI ns (bI ns level xs i) := by have := HED.out; omega
      clear HW3 HT3 ht HSP HED
      go_roundg (unI ns (bI ns level xs (i + 1)) + 1)
      case rel => exact ⟨i + 1, EB3, eA3, em3, ec3, Nat.lt_succ_self _, HWN, HTN⟩
      case measure => omega
    · unfold RetSp at HSP
      rw [decide_eq_false h0] at HSP
      replace HSP := Lib.hid HSP
      have HFR : Hid (fromI ns level xs = (liveI ns).filter (hasI p.1)) := by
        show _ = _
        have h1 := HSH.out.1 (List.eq_nil_of_length_eq_zero (by omega))
        unfold fromI
        refine List.filter_congr fun y _ => hasI_congr (fun z => ?_) y
        rw [← clI_of h1, HIV.out.mem]
        show _ ↔ z ∈ stepI ns level (bI ns level xs i)
        rw [h1]
      obtain ⟨M, hM⟩ : ∃ M, p.1 = M := ⟨_, rfl⟩
      rw [hM] at HFR hb1 HSP
      have hMl : M.length ≤ 1048576 := by omega
      have hlv := liveI_le ns
      have hnl := HG2.out.len
      have hnn := HG2.out.2.1
      clear hp HX HIV HSH hwv hb0 hb1 hcc HP HED hM
      go_wp2_with (first
        | (go_at_call 88; (with_reducible refine HSP.out.mono ?_); rintro e w3 ⟨rfl, ht3, EB3, eA3, em3, ec3, hwv3⟩; have HT3 := Lib.hid (ht.out.trans ht3 (fun k q => .inl q)); have HW3 := Lib.hid hwv3; clear ht3 hwv3; have hs3 := HT3.out.size; have HG3 := Lib.hid (Tch_pl HG2.out HT3.out (by omega) hwb hbm (Nat.le_trans hs2 hs3)); have HC3 := HC2.out.below (HT3.out.below (B := w1.heap.size) hs2 (by rintro k (rfl | rfl) <;> omega)) hbl; have LP3 := plane_load HC3; clear HC3; have HLV := Lib.hid (pl_live A n c ns en tp w3 HG3.out); unfold pgL at LP3 HLV)
        | refine wpList_loadE LP3 _ rfl rfl rfl ?_
        | (go_at_call 27; (with_reducible refine HLV.out.mono ?_); rintro e w4 ⟨A4, m4, c4, rfl, ho4, b4⟩; have HO4 := Lib.hid ho4; have HW4 := Lib.hid (WvS.apart HW3.out b4); have HB4 := Lib.hid b4; clear ho4 b4))
      have hm4 := HO4.out.len
      have hs4 := HB4.out.size
      obtain ⟨L, hL⟩ : ∃ L, liveI ns = L := ⟨_, rfl⟩
      have HWL : Hid (∀ x ∈ L, (Lit.int .i64 x).wf = true) := fun x hx => wf_live HG3.out (by rw [hL]; exact hx)
      rw [hL] at HO4 HFR hm4 hlv
      have HR4 := Lib.hid HO4.out.rd
      have hbw := HW4.out.blk.lt
      obtain ⟨m, D, hmm, hMp0, hCm0⟩ := HW4.out.map
      have HMp := Lib.hid hMp0
      have HCm := Lib.hid hCm0
      have c4 : w4.cell? ⟨wb, 4, none⟩ = some (.map (some bm)) := HW4.out.blk.cell 4
      clear LP3 HSP HW3 HG2 HO4 HC2 hMp0 hCm0
      go_wp2_with fail
      go_loopw [8, 10, 20] (fun s8 _ s20 wx => ∃ (j m' : Nat) (A' : Option Addr) (c' : Nat), j ≤ m4 ∧ m' ≤ j ∧ s20 = .int .i64 j ∧ s8 = .slice A' m' c' ∧ Hid (OwnI wx w4.heap.size A' m' c' ((L.take j).filter (hasI M))) ∧ Hid (Below w4.heap.size w4 wx)) (fun _ _ s20 _ => m4 - (intOf s20).toNat)
      case atStart => exact ⟨0, 0, none, 0, Nat.zero_le _, Nat.zero_le _, rfl, rfl, Lib.hid (by exact OwnI.nil_ _ _), Lib.hid (Below.refl _ _)⟩
      case round =>
        obtain ⟨j, m', A', c', hj, hm, rfl, rfl, ho, hb⟩ := hrel
        have hsx := hb.out.size
        by_cases hlt : j < m4
        · obtain ⟨b, o, rfl, hb5, hc5⟩ := HR4.out.2 (by omega)
          have hxj : j < L.length := by omega
          have hx4 : wr.cell? ⟨b, o + j, none⟩ = some (.int .i64 (ig L j)) := (hb.out.cell (p := ⟨b, o + j, none⟩) hb5).trans (hc5 j _ (by rw [List.getElem?_map, List.getElem?_eq_getElem hxj, ig, List.getD_eq_getElem?_getD, List.getElem?_eq_getElem hxj]; rfl))
          have hc4 : wr.cell? ⟨wb, 4, none⟩ = some (.map (some bm)) := (hb.out.cell (p := ⟨wb, 4, none⟩) hbw).trans c4
          have HFT := filt_take (q := hasI M) hxj
          have hmem : ig L j ∈ L := by simp only [ig, List.getD_eq_getElem?_getD, List.getElem?_eq_getElem hxj, Option.getD_some]; exact List.getElem_mem hxj
          obtain ⟨x, hx⟩ : ∃ x, ig L j = x := ⟨_, rfl⟩
          rw [hx] at hx4 HFT hmem
          have hkey := keyOf_int_mk (P := Try.prog) Try.underlying3 (HWL.out x hmem)
          have HMX := Lib.hid (MpAt.at_ HMp.out (hb.out.block bm HMp.out.lt))
          obtain ⟨cn, hcn⟩ : ∃ cn : Nat, M.count x = cn := ⟨_, rfl⟩
          have hcl := count_le M x
          rw [hcn] at hcl
          have HCN := Lib.hid hcn
          clear hc5 hx hmem hb5
          by_cases h5 : cn = 0
          · subst h5
            have hno : hasI M x = false := by
              cases e : hasI M x with
              | false => rfl
              | true => exact absurd (count_pos.2 (hasI_iff.1 e)) (by rw [hcn]; decide)
            rw [hno] at HFT
            replace HFT := Lib.hid HFT
            clear hcn hno
            go_wp2_with (at_lookup; refine wpList_lookup_own_int _ rfl (.tmp 27) (.tmp 28) 104 rfl 3 3 .i64 lawI Try.underlying104 Try.underlying3 (zeroI _) bm m D rfl HMX.out (.int .i64 x) (.int .i64 x) rfl hkey ?_; intro cc hat hwc; obtain rfl : cc = 0 := (cnt_eq HCm.out hat).trans (by rw [HCN.out]; rfl); clear hat hwc)
            have HON : Hid (OwnI wr w4.heap.size A' m' c' ((L.take (j + 1)).filter (hasI M))) := by
              show OwnI _ _ _ _ _ _
              rw [HFT.out]; simpa using ho.out
            clear ho HMX hx4 hc4
            go_roundw
            case rel => exact ⟨j + 1, m', A', c', by omega, by omega, by go_num, rfl, HON, hb⟩
            case measure => simp [intOf]; omega
          · have hyes : hasI M x = true := hasI_iff.2 (count_pos.1 (by rw [hcn]; omega))
            rw [hyes] at HFT
            replace HFT := Lib.hid HFT
            have hpos : (0 : Int) < (cn : Int) := by omega
            clear hcn hyes
            go_wp2_with (first
              | (at_lookup; refine wpList_lookup_own_int _ rfl (.tmp 27) (.tmp 28) 104 rfl 3 3 .i64 lawI Try.underlying104 Try.underlying3 (zeroI _) bm m D rfl HMX.out (.int .i64 x) (.int .i64 x) rfl hkey ?_; intro cc hat hwc; obtain rfl : cc = (cn : Int) := (cnt_eq HCm.out hat).trans (by rw [HCN.out]); clear hat hwc)
              | (at_builtin; refine wpList_push rfl (.tmp 31) (.tmp 33) _ rfl w4.heap.size 3 .i64 8 (by decide) Try.underlying35 info_int wr A' m' c' _ _ rfl ho.out rfl (by omega) hsx ?_; intro g' c'' w6 ho6 hb6; have HO6 := Lib.hid ho6; have HB6 := Lib.hid (hb.out.trans hb6); clear ho6 hb6))
            have HON : Hid (OwnI w6 w4.heap.size (some ⟨g', 0, none⟩) (m' + 1) c'' ((L.take (j + 1)).filter (hasI M))) := by
              show OwnI _ _ _ _ _ _
              rw [HFT.out]; exact HO6.out
            clear ho HMX hx4 hc4 HO6
            go_roundw
            case rel => exact ⟨j + 1, m' + 1, some ⟨g', 0, none⟩, c'', by omega, by omega, by go_num, rfl, HON, HB6⟩
            case measure => simp [intOf]; omega
        · obtain rfl : j = m4 := by omega
          have HF : Hid (RetI (fromI ns level xs) w (.returned (.slice A' m' c')) wr) := by
            have h1 := ho.out
            rw [List.take_of_length_le (by omega)] at h1
            have hs1 := HB.out.size
            refine ⟨_, _, _, rfl, by rw [HFR.out]; exact h1.mono (by omega), ?_⟩
            have h2 : Below w.heap.size w w2 := HB.out.trans (HB2.out.mono hs1)
            have h3 : Below w.heap.size w w3 := h2.trans (HT3.out.below (by omega) (by rintro k (rfl | rfl) <;> omega))
            exact (h3.trans (HB4.out.mono (by omega))).trans (hb.out.mono (by omega))
          clear ho hb
          go_wp2_with fail
          go_ret
          exact HF.out
theorem rd_one (w : World) (a : Int) : Rd (w.alloc (.cells #[.int .i64 a] 3)) (w.alloc (.cells #[.int .i64 a] 3)).heap.size (some ⟨w.heap.size, 0, none⟩) 1 ([a].map (.int .i64)) :=
  ⟨rfl, fun _ => ⟨w.heap.size, 0, rfl, (Blk.new w 3 #[.int .i64 a]).lt, fun j u hu => by
    have h := cell_one_new w (.int .i64 a) 3 j u hu
    rwa [Addr.add_lit] at h⟩⟩
def RetSt (ns : List ND) (level a b : Int) (w : World) (e : Ending) (w' : World) : Prop := ∃ r is, e = .returned (.tuple #[.int .i64 r, .bool is]) ∧ StR ns level a b r is ∧ Below w.heap.size w w'
theorem wf_there {w : World} {B n c : Nat} {A : Option Addr} {ns : List ND} (hg : PgAt w B A n c ns) {x : Int} (hx : thB ns x = true) : (Lit.int .i64 x).wf = true := wf_live hg (mem_liveI.2 hx)
set_option maxRecDepth 100000 in
set_option maxHeartbeats 4000000 in
theorem pl_steps (d : Nat) (A : Option Addr) (n c : Nat) (ns : List ND) (en tp a b level : Int) (w : World) (hg : PgAt w w.heap.size A n c ns)
    (hwf : (Lit.int .i64 a).wf = true) (hd : ∀ s, (nearI ns s level).length ≤ d) (hC : 1 + d * (1 + ns.length) ≤ 1048576) :
    Calls Try.prog 52 #[.agg (pgL A n c en tp), .int .i64 a, .int .i64 b, .int .i64 level] w (RetSt ns level a b w) := by
  obtain ⟨w1, hw1⟩ : ∃ x, w.alloc (.cells (pgL A n c en tp) 56) = x := ⟨_, rfl⟩
  obtain ⟨C1, b1⟩ := box_plane hw1
  have LP := plane_load C1
  have HB := Lib.hid b1
  have HC := Lib.hid C1
  have HG := Lib.hid (hg.on b1 b1.size)
  have HT := pl_there A n c ns en tp b w1 HG.out
  have hbl := C1.lt
  have HWF := Lib.hid hwf
  clear hg C1 b1 hwf
  cases hth : thB ns b with
  | false =>
    rw [hth] at HT
    have HS : Hid (StR ns level a b 0 false) := .inr ⟨rfl, rfl, .inl hth⟩
    unfold pgL at hw1 LP HT ⊢
    replace HT := Lib.hid HT
    clear hth hd hC
    go_enter Try.func52, Try.ntmps52
    go_upto_region 1 with fail
    (try rw [hw1])
    clear hw1
    go_wp2_with (first
      | refine wpList_loadE LP _ rfl rfl rfl ?_
      | (go_at_call 24; (with_reducible refine HT.out.mono ?_); rintro e w2 ⟨rfl, b2⟩; have HB2 := Lib.hid (HB.out.trans (b2.mono HB.out.size)); clear b2))
    go_ret2
    exact ⟨_, _, rfl, HS.out, HB2.out⟩
  | true =>
    rw [hth] at HT
    have hkey := keyOf_int_mk (P := Try.prog) Try.underlying3 (wf_there HG.out hth)
    have HTH := Lib.hid hth
    have HBD := Lib.hid (fun k => rI_bound hd [a] k)
    have HCC := Lib.hid hC
    unfold pgL at hw1 LP HT ⊢
    replace HT := Lib.hid HT
    clear hth hd hC
    go_enter Try.func52, Try.ntmps52
    go_upto_region 1 with fail
    (try rw [hw1])
    clear hw1
    go_upto_region 3 with (first
      | refine wpList_loadE LP _ rfl rfl rfl ?_
      | (go_at_call 24; (with_reducible refine HT.out.mono ?_); rintro e w2 ⟨rfl, b2⟩; have HB2 := Lib.hid b2; clear b2))
    have HC2 := Lib.hid (HC.out.below HB2.out hbl)
    have LP2 := plane_load HC2.out
    unfold pgL at LP2
    obtain ⟨w3, hw3⟩ : ∃ x, w2.alloc (.cells #[.int .i64 a] 3) = x := ⟨_, rfl⟩
    have b3 : Below w2.heap.size w2 w3 := by rw [← hw3]; exact bel_box _ _
    have HB3 : Hid (Below w1.heap.size w1 w3) := HB2.out.trans (b3.mono HB2.out.size)
    have hR : Rd w3 w3.heap.size (some ⟨w2.heap.size, 0, none⟩) 1 ([a].map (.int .i64)) := by
      rw [← hw3]; exact rd_one _ _
    have HBG := wv_begin A n c en tp level (some ⟨w2.heap.size, 0, none⟩) 1 1 [a] w3 hR (by decide) (by intro x hx; rw [List.mem_singleton] at hx; subst hx; exact HWF.out)
    unfold pgL at HBG
    replace HBG := Lib.hid HBG
    have HG3 := Lib.hid (HG.out.below HB3.out)
    have HC3 := Lib.hid (HC.out.below HB3.out hbl)
    clear hR b3 LP HT HC HC2 HG HB2
    go_upto_region 4 with (first
      | refine wpList_loadE LP2 _ rfl rfl rfl ?_
      | (go_at_call 87; (try rw [hw3]); (with_reducible refine HBG.out.mono ?_); rintro e w4 ⟨EB, wb, bm, eA, em, ec, rfl, hwb, hbm, b4, hwv⟩; have HB4 := Lib.hid b4; have HW4 := Lib.hid hwv; clear b4 hwv))
    have hs3 := HB3.out.size
    have hs4 := HB4.out.size
    have HG4 : Hid (PgAt w4 w1.heap.size A n c ns) := HG3.out.below (HB4.out.mono hs3)
    clear HG3 HC3 HBG LP2 hw3
    go_wp2_with fail
    go_loopg [11] (unI ns [a] + 1) (fun k s11 wr => ∃ (i EB : Nat) (eA : Option Addr) (em ec : Nat), s11 = .int .i64 i ∧ unI ns (bI ns level [a] i) < k ∧ i + unI ns (bI ns level [a] i) ≤ ns.length ∧ Hid (∀ j, j < i → b ∉ bI ns level [a] j) ∧ Hid (WvS wr EB wb bm A n c en tp level (rI ns level [a] i).1 (rI ns level [a] i).2 eA em ec) ∧ Hid (Tch (fun k => k = wb ∨ k = bm) w4 wr))
    case atStart => exact ⟨0, EB, eA, em, ec, rfl, Nat.lt_succ_self _, by have := unI_le ns [a]; show 0 + unI ns [a] ≤ _; omega, Lib.hid (fun j hj => absurd hj (Nat.not_lt_zero _)), Lib.hid (by show WvS _ _ _ _ _ _ _ _ _ _ _ _ _ _ _; exact HW4.out), Lib.hid (Tch.refl _ _)⟩
    case round =>
      obtain ⟨i, EB, eA, em, ec, rfl, hk, hin, hno, hwv, ht⟩ := hrel
      have hb0 := HBD.out i
      have hb1 := HBD.out (i + 1)
      have hcc := HCC.out
      have hrl := rI_le ns level [a] i
      have hsz := ht.out.size
      have hnl := HG4.out.len
      have hnn := HG4.out.2.1
      simp only [List.length_singleton] at hb0 hb1
      have HSP := wv_spread w1.heap.size EB wb bm A n c ns en tp level _ _ eA em ec wr hwv.out (Tch_pl HG4.out ht.out (by omega) (by omega) (by omega) (Nat.le_refl _)) (by omega) (by omega) (by show (rI ns level [a] (i + 1)).1.length ≤ _; omega) (by omega)
      have HX : Hid ((rI ns level [a] i).2.foldl (sprF ns level) ((rI ns level [a] i).1, []) = rI ns level [a] (i + 1)) := rfl
      rw [HX.out] at HSP
      have HIV := Lib.hid (rI_inv ns level [a] i)
      have HED := Lib.hid (rI_edge ns level [a] i)
      have HSH := Lib.hid (@rI_shut ns level [a] i)
      have HBN : Hid (Below w.heap.size w wr) := HB.out.trans ((HB3.out.trans (HB4.out.mono hs3)).mono HB.out.size |>.trans (ht.out.below (by have := HB.out.size; omega) (by have := HB.out.size; rintro k (rfl | rfl) <;> omega)))
      have hc4 : wr.cell? ⟨wb, 4, none⟩ = some (.map (some bm)) := hwv.out.blk.cell 4
      obtain ⟨m, D, hmm, hMp0, hCm0⟩ := hwv.out.map
      have HMp := Lib.hid hMp0
      have HCm := Lib.hid hCm0
      obtain ⟨cn, hcn⟩ : ∃ cn : Nat, (rI ns level [a] i).1.count b = cn := ⟨_, rfl⟩
      have hcl := count_le (rI ns level [a] i).1 b
      rw [hcn] at hcl
      have HCN := Lib.hid hcn
      clear hMp0 hCm0
      by_cases h5 : cn = 0
      · subst h5
        have HNO : Hid (b ∉ bI ns level [a] i) := fun q => absurd (count_pos.2 ((HIV.out.mem b).2 q)) (by rw [hcn]; decide)
        obtain ⟨p, hp⟩ : ∃ p, rI ns level [a] (i + 1) = p := ⟨_, rfl⟩
        rw [hp] at HSP HED HSH hb1
        have HP := Lib.hid hp
        by_cases h0 : 0 < p.2.length
        · unfold RetSp at HSP
          rw [decide_eq_true h0] at HSP
          replace HSP := Lib.hid HSP
          clear hp HX HIV HSH hwv hb0 hb1 hcc hcn
          go_wp2_with (first
            | (at_lookup; refine wpList_lookup_own_int _ rfl (.tmp 26) (.tmp 27) 104 rfl 3 3 .i64 lawI Try.underlying104 Try.underlying3 (zeroI _) bm m D rfl HMp.out (.int .i64 b) (.int .i64 b) rfl hkey ?_; intro cc hat hwc; obtain rfl : cc = 0 := (cnt_eq HCm.out hat).trans (by rw [HCN.out]; rfl); clear hat hwc)
            | (go_at_call 88; (with_reducible refine HSP.out.mono ?_); rintro e w5 ⟨rfl, ht3, EB3, eA3, em3, ec3, hwv3⟩; have HT3 := Lib.hid ht3; have HW3 := Lib.hid hwv3; clear ht3 hwv3))
          have HWN : Hid (WvS w5 EB3 wb bm A n c en tp level (rI ns level [a] (i + 1)).1 (rI ns level [a] (i + 1)).2 eA3 em3 ec3) := by
            show WvS _ _ _ _ _ _ _ _ _ _ _ _ _ _ _
            rw [HP.out]; exact HW3.out
          have HTN := Lib.hid (ht.out.trans HT3.out (fun k q => .inl q))
          have hless : unI ns (bI ns level [a] (i + 1)) < unI ns (bI ns level [a] i) := by have := HED.out; omega
          have HNN : Hid (∀ j, j < i + 1 → b ∉ bI ns level [a] j) := fun j hj => by
            rcases Nat.lt_or_ge j i with q | q
            · exact hno.out j q
            · obtain rfl : j = i := by omega
              exact HNO.out
          clear HW3 HT3 ht HSP HED hno HNO
          go_roundg (unI ns (bI ns level [a] (i + 1)) + 1)
          case rel => exact ⟨i + 1, EB3, eA3, em3, ec3, by go_num, Nat.lt_succ_self _, by omega, HNN, HWN, HTN⟩
          case measure => omega
        · unfold RetSp at HSP
          rw [decide_eq_false h0] at HSP
          replace HSP := Lib.hid HSP
          have HST : Hid (StR ns level a b 0 false) := .inr ⟨rfl, rfl, .inr (by
            have h1 := HSH.out.1 (List.eq_nil_of_length_eq_zero (by omega))
            rw [← clI_of h1]; exact HNO.out)⟩
          clear hp HX HIV HSH hwv hb0 hb1 hcc hcn HED hno
          go_wp2_with (first
            | (at_lookup; refine wpList_lookup_own_int _ rfl (.tmp 26) (.tmp 27) 104 rfl 3 3 .i64 lawI Try.underlying104 Try.underlying3 (zeroI _) bm m D rfl HMp.out (.int .i64 b) (.int .i64 b) rfl hkey ?_; intro cc hat hwc; obtain rfl : cc = 0 := (cnt_eq HCm.out hat).trans (by rw [HCN.out]; rfl); clear hat hwc)
            | (go_at_call 88; (with_reducible refine HSP.out.mono ?_); rintro e w5 ⟨rfl, ht3, _⟩; have HB5 : Hid (Below w.heap.size w w5) := HBN.out.trans (ht3.below HBN.out.size (by have := HB.out.size; rintro k (rfl | rfl) <;> omega)); clear ht3))
          go_ret2
          exact ⟨_, _, rfl, HST.out, HB5.out⟩
      · have HST : Hid (StR ns level a b (i : Int) true) := .inl ⟨rfl, HTH.out, i, rfl, (HIV.out.mem b).1 (count_pos.1 (by rw [hcn]; omega)), hno.out⟩
        have hpos : (0 : Int) < (cn : Int) := by omega
        clear HX HIV HSH hwv hb0 hb1 hcc hcn HED hno HSP
        go_wp2_with (at_lookup; refine wpList_lookup_own_int _ rfl (.tmp 26) (.tmp 27) 104 rfl 3 3 .i64 lawI Try.underlying104 Try.underlying3 (zeroI _) bm m D rfl HMp.out (.int .i64 b) (.int .i64 b) rfl hkey ?_; intro cc hat hwc; obtain rfl : cc = (cn : Int) := (cnt_eq HCm.out hat).trans (by rw [HCN.out]); clear hat hwc)
        go_ret2
        exact ⟨_, _, rfl, HST.out, HBN.out⟩
end Go.Proofs.Ytkhnnjeinpojkaa
