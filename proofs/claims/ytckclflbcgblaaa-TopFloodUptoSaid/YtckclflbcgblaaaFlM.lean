/- A flood: plain law, begins6, the walk of TopFlood. -/
import Derived.Test.YtckclflbcgblaaaGrP
import Derived.Test.YtckclflbcgblaaaHpLP
import Derived.Test.YtckclflbcgblaaaFlA
import Derived.Test.YtckclflbcgblaaaPmNT
namespace Go.Proofs.Ytckclflbcgblaaa
theorem ring_memG {ns : List ND} {links en tp : Int} (h : chkB ns links en tp = true) : ringI ns = ringGo ns (ns.length + 1) [] (nAt ns 0).next ∧ ∀ x, thB ns x = true → x ∈ ringI ns := by
  unfold chkB at h
  simp only [Bool.and_eq_true, decide_eq_true_eq] at h
  obtain ⟨⟨⟨⟨h1, _⟩, h3⟩, _⟩, _⟩ := h
  unfold ringB at h3
  rw [Bool.and_eq_true] at h3
  have hlen : (ringI ns).length = (liveI ns).length := by have := h3.2; rw [beq_iff_eq] at this; omega
  have hne : ns.length ≠ 0 := by omega
  have e : ringI ns = ringGo ns (ns.length + 1) [] (nAt ns 0).next := by unfold ringI; rw [if_neg hne]
  refine ⟨e, fun x hx => ?_⟩
  refine sub_eqG (b := liveI ns) ?_ (fun y hy => mem_liveIG.2 ?_) (by rw [hlen]; exact Nat.le_refl _) _ (mem_liveIG.2 hx)
  · rw [e]; exact ringGo_okG _ _ _ List.nodup_nil
  · rw [e] at hy
    exact ringGo_allG (P := fun y => thB ns y = true) (fun y _ _ q => q) _ _ _ (fun y q => by cases q) (fun q => q) y hy
theorem next_near {ns : List ND} {y : Int} (hy : 0 ≤ y ∧ y < ns.length) (hn : thB ns (nAt ns y.toNat).next = true) : (nAt ns y.toNat).next ∈ nearI ns y 0 := by
  refine near_memG.2 ⟨hy, ?_, hn⟩
  unfold nearSrc
  refine List.mem_append_right _ ?_
  rw [if_pos rfl]
  exact List.mem_cons_self ..
/-- What knows the neighbours of the head, and of all that it knows, knows all. -/
theorem flood_all {ns : List ND} {links en tp : Int} (h : chkB ns links en tp = true) (K : List Int) (h0 : ∀ y ∈ nearI ns 0 0, y ∈ K) (hK : ∀ x ∈ K, thB ns x = true → ∀ y ∈ nearI ns x 0, y ∈ K) : ∀ x, thB ns x = true → x ∈ K := by
  obtain ⟨e, hm⟩ := ring_memG h
  have hpos : 1 ≤ ns.length := by
    unfold chkB at h
    simp only [Bool.and_eq_true, decide_eq_true_eq] at h
    exact h.1.1.1.1
  intro x hx
  have := hm x hx
  rw [e] at this
  refine ringGo_allG (ns := ns) (P := fun y => y ∈ K) (fun y hy ht hn => hK y hy ht _ (next_near (th_rangeG ht) hn)) _ _ _ (fun y q => by cases q) (fun q => h0 _ ?_) x this
  exact next_near (y := 0) ⟨by omega, by omega⟩ q
/-- How a flood stands: who was looked at last, who was looked at, who is known, who waits. -/
structure FlI (ns : List ND) (a : Int) (P K W : List Int) : Prop where
  nd : K.Nodup
  th : ∀ x ∈ K, thB ns x = true
  pm : (P ++ W).Perm K
  zero : a ≠ 0 → ∀ y ∈ nearI ns 0 0, y ∈ K
  cl : ∀ p ∈ P, p ≠ a → ∀ y ∈ nearI ns p 0, y ∈ K
  at_ : a = 0 ∧ P = [] ∨ a ∈ P
theorem FlI.start (ns : List ND) : FlI ns 0 [] [] [] := ⟨List.nodup_nil, fun _ h => by simp at h, .refl _, fun h => absurd rfl h, fun _ h => by simp at h, .inl ⟨rfl, rfl⟩⟩
theorem FlI.offer {ns : List ND} {a y : Int} {P K W : List Int} (h : FlI ns a P K W) (hy : thB ns y = true) (hn : y ∉ K) : FlI ns a P (K ++ [y]) (W ++ [y]) := by
  refine ⟨?_, fun x hx => ?_, ?_, fun q z hz => List.mem_append_left _ (h.zero q z hz), fun p hp hpa z hz => List.mem_append_left _ (h.cl p hp hpa z hz), h.at_⟩
  · exact List.nodup_append.2 ⟨h.nd, by simp, fun x hx z hz e => by
      obtain rfl : z = y := by simpa using hz
      subst e
      exact hn hx⟩
  · rcases List.mem_append.1 hx with hx | hx
    · exact h.th x hx
    · obtain rfl : x = y := by simpa using hx
      exact hy
  · rw [← List.append_assoc]
    exact List.Perm.append_right _ h.pm
/-- The next one is looked at. -/
theorem FlI.want {ns : List ND} {a z : Int} {P K W W' : List Int} (h : FlI ns a P K W) (hn : ∀ y ∈ nearI ns a 0, y ∈ K) (hz : (z :: W').Perm W) : FlI ns z (P ++ [z]) K W' := by
  have hzK : z ∈ K := h.pm.mem_iff.1 (List.mem_append_right _ (hz.mem_iff.1 (List.mem_cons_self ..)))
  have hpm : (P ++ [z] ++ W').Perm K := by
    rw [List.append_assoc]
    exact (List.Perm.append_left _ hz).trans h.pm
  refine ⟨h.nd, h.th, hpm, fun _ y hy => ?_, fun p hp hpz y hy => ?_, .inr (by simp)⟩
  · by_cases ha : a = 0
    · subst ha
      exact hn y hy
    · exact h.zero ha y hy
  · rcases List.mem_append.1 hp with hp | hp
    · by_cases hpa : p = a
      · subst hpa
        exact hn y hy
      · exact h.cl p hp hpa y hy
    · exact absurd (by simpa using hp) hpz
theorem FlI.lenP {ns : List ND} {a : Int} {P K W : List Int} (h : FlI ns a P K W) : P.length + W.length = K.length := by rw [← h.pm.length_eq, List.length_append]
theorem FlI.lenK {ns : List ND} {a : Int} {P K W : List Int} (h : FlI ns a P K W) : K.length ≤ (liveI ns).length := len_subG _ _ h.nd fun x hx => mem_liveIG.2 (h.th x hx)
/-- Where nobody waits all are known; and where as many are known as there are. -/
theorem FlI.end_ {ns : List ND} {links en tp a : Int} {P K W : List Int} (hc : chkB ns links en tp = true) (h : FlI ns a P K W) (hn : ∀ y ∈ nearI ns a 0, y ∈ K) (he : W = [] ∨ (liveI ns).length ≤ K.length) : (∀ x, thB ns x = true → x ∈ K) ∧ K.length = (liveI ns).length := by
  have hall : ∀ x, thB ns x = true → x ∈ K := by
    rcases he with rfl | he
    · refine flood_all hc K (fun y hy => ?_) fun x hx ht y hy => ?_
      · by_cases ha : a = 0
        · subst ha
          exact hn y hy
        · exact h.zero ha y hy
      · have hxP : x ∈ P := by have := h.pm.mem_iff.2 hx; simpa using this
        by_cases hxa : x = a
        · subst hxa
          exact hn y hy
        · exact h.cl x hxP hxa y hy
    · intro x hx
      exact sub_eqG h.nd (fun y hy => mem_liveIG.2 (h.th y hy)) he x (mem_liveIG.2 hx)
  refine ⟨hall, Nat.le_antisymm h.lenK ?_⟩
  exact len_subG _ _ (nodup_liveIG ns) fun x hx => hall x (mem_liveIG.1 hx)
/-- The spots of slots. -/
def spL_ (q : IS) (ns : List ND) (l : List Int) : List Sp := l.map fun y => spN q ns y.toNat
theorem spL_perm {q : IS} {ns : List ND} {W : List Int} {x : Sp} {L' : List Sp} (hp : (x :: L').Perm (spL_ q ns W)) : ∃ z W', x = spN q ns z.toNat ∧ z ∈ W ∧ (z :: W').Perm W ∧ L'.Perm (spL_ q ns W') := by
  have hx : x ∈ spL_ q ns W := hp.mem_iff.1 (List.mem_cons_self ..)
  unfold spL_ at hx
  obtain ⟨z, hz, rfl⟩ := List.mem_map.1 hx
  have h1 : (z :: W.erase z).Perm W := (List.perm_cons_erase hz).symm
  refine ⟨z, W.erase z, rfl, hz, h1, ?_⟩
  have h2 : (spN q ns z.toNat :: spL_ q ns (W.erase z)).Perm (spL_ q ns W) := by unfold spL_; exact List.Perm.map (fun y => spN q ns y.toNat) h1
  exact List.Perm.cons_inv (hp.trans h2.symm)
open Go.RowKit Go.Maps Go.ChangeMaps Go.MapKept
def bqF : List ND := putSt [nd0] 1 (putND [nd0] 3 0 [] 0 0)
theorem bfF1 : putW [nd0] 1 0 0 0 3 = 0 ∧ slotI [nd0] = 1 := by decide +kernel
theorem bfF2 : thB bqF 1 = true := by decide +kernel
theorem wf_nat {n : Nat} (h : n ≤ 1048576) : (Lit.int .i64 (n : Nat)).wf = true := wf_i64 (by omega) (by omega)
set_option maxRecDepth 100000 in
set_option maxHeartbeats 4000000 in
theorem begins6F (w : World) : Calls Try.prog 5 #[] w (RetB true w) := by
  have HB : Hid (Below w.heap.size w w) := Below.refl _ _
  go_enter Try.func5, Try.ntmps5
  have HC := Lib.hid (new_e (w := w))
  go_wp2_with (go_at_call 6; (with_reducible refine HC.out.mono ?_); rintro e W0 ⟨g0, n0, c0, rfl, hp0, hb⟩; have HP0 := Lib.hid hp0; replace HB := Lib.hid (HB.out.trans (hb.mono HB.out.size)); clear hp0 hb)
  clear HC
  have HC := Lib.hid (put_e HP0.out 1 0 3 none 0 0 [] 0 (vec0 W0) (by decide) bfF1.1 bfF1.2)
  go_wp2_with (first | ((with_reducible refine wpList_storeE (op := ⟨none, _, _, _, _, _⟩) SR ?s1X ?s1Y ?s1G ?s1O ?s1A ?s1B ?_); (case s1O => exact rfl); (case s1A => exact rfl); (case s1B => exact rfl); (case s1G => exact rfl)) | (go_at_call 7; (with_reducible refine HC.out.mono ?_); rintro e W1 ⟨g1, n1, c1, rfl, hp, hb⟩; replace HB := Lib.hid (HB.out.trans (hb.mono HB.out.size)); have SR := plane_put W1 (some ⟨g1, 0, none⟩) n1 c1 0 0; have NP := PV.new (en := 0) (tp := 0) hp; have NB := plane_bel W1 (some ⟨g1, 0, none⟩) n1 c1 0 0; obtain ⟨X1, hX⟩ : ∃ x, ((W1.alloc (.cells (pgL none 0 0 0 0) 27)).setCells W1.heap.size 0 (pgL (some ⟨g1, 0, none⟩) n1 c1 0 0).toList) = x := ⟨_, rfl⟩; rw [hX] at SR NP NB; replace HB := Lib.hid (HB.out.trans (NB.mono HB.out.size)); have Pa : Hid (PV X1 W1.heap.size g1 n1 c1 0 0 bqF) := NP; clear hX NP NB hp hb))
  clear HC SR
  clear HP0
  have HC := Lib.hid (pr_newS ⟨none, 0, 0, []⟩ 1 (by decide) X1 (vec0 X1).vec (by decide))
  unfold IS.v at HC
  go_upto_region 3 with (go_at_call 14; (refine HC.out.mono ?_); rintro e V0 ⟨pb, mb, qb, bb, qv, rfl, hb, hmb, _, hpn⟩; have HPN := Lib.hid hpn; have HMB : Hid (w.heap.size ≤ mb) := Nat.le_trans HB.out.size hmb; replace Pa := Lib.hid (Pa.out.below hb); replace HB := Lib.hid (HB.out.trans (hb.mono HB.out.size)); clear hpn hb hmb)
  clear HC
  have z0 : V0.cell? ⟨W1.heap.size, 0, none⟩ = some (.slice (some ⟨g1, 0, none⟩) n1 c1) := Pa.out.blk.cell 0
  have z1 : V0.cell? ⟨W1.heap.size, 1, none⟩ = some (.int .i64 0) := Pa.out.blk.cell 1
  have z2 : V0.cell? ⟨W1.heap.size, 2, none⟩ = some (.int .i64 0) := Pa.out.blk.cell 2
  have HC := Lib.hid (there_e (en := 0) (tp := 0) Pa.out.pge 1 bfF2)
  go_wp2_with (first | (go_at_call 20; (with_reducible refine HC.out.mono ?_); rintro e V1 ⟨rfl, hb⟩; have S1 := HPN.out.below hb; have HO := Lib.hid (pr_offerS (by decide) 1 (by decide) ⟨0, ⟨none, 0, 0, []⟩, 0⟩ V1 S1 ((vec0 V0).vec.below hb |>.2 |> fun h => ⟨fun _ => ⟨rfl, rfl⟩, h.1, Rd.nil_, h.2.2⟩) (fun k hk => .inr (.inr (Nat.le_trans hb.size hk))) (by decide) (by decide)); have HBS := Lib.hid S1.b; have HB2 := Lib.hid (HB.out.trans (hb.mono HB.out.size)); unfold ItX.cells IS.v at HO; clear hb S1) | (go_at_call 16; (refine HO.out.mono ?_); rintro e V2 ⟨r, rfl, ht, _, h2⟩; obtain ⟨rfl, _⟩ := h2 (by simp); have HB3 : Hid (Below w.heap.size w V2) := HB2.out.trans (ht.below HB2.out.size (by rintro k (rfl | q); exact HMB.out; have := (HBS.out.2 k q).1; have := HMB.out; omega)); clear ht h2))
  go_ret
  exact ⟨rfl, HB3.out⟩
theorem FlS.permW {w : World} {Bs : Nat → Prop} {pb mb qb bb m : Nat} {qv : IS} {offs : List Int} {SK SW SW' : List Sp} (S : FlS w Bs pb mb qb bb qv m offs SK SW) (h : SW.Perm SW') : FlS w Bs pb mb qb bb qv m offs SK SW' := by
  obtain ⟨hq, hb, h3, ⟨q1, q2, q3, q4⟩, h5⟩ := S.h
  exact ⟨S.p, S.v, S.c, ⟨hq, hb, h3, ⟨q1, q2, q3, q4.trans h⟩, h5⟩, S.b⟩
theorem spL_snoc (q : IS) (ns : List ND) (l : List Int) (k : Nat) : spL_ q ns (l ++ [(k : Int)]) = spL_ q ns l ++ [spN q ns k] := by
  unfold spL_; rw [List.map_append]; simp
theorem spL_lenF (q : IS) (ns : List ND) (l : List Int) : (spL_ q ns l).length = l.length := by unfold spL_; rw [List.length_map]
/-- What is known of a flood. -/
def FlK (ns : List ND) (t : Nat) (a : Int) (offs P K W : List Int) (N : Nat) : Prop := FlI ns a P K W ∧ P.length = t ∧ offs.length ≤ N ∧ ∀ y, y ∈ offs ↔ y ∈ K
theorem thN_ltF {ns : List ND} {k : Nat} (h : thN ns k = true) : k < ns.length := by
  unfold thN at h
  simp only [Bool.and_eq_true, decide_eq_true_eq] at h
  exact h.1.2
theorem flood_step {ns : List ND} {t N j k : Nat} {a : Int} {offs P K W l : List Int} {S' : List Int → List Int → List Int → Prop} (hK : FlK ns t a offs P K W N) (hn : ∀ y ∈ l.take j, y ∈ K) (hl : l[j]? = some (k : Int)) (hth : thN ns k = true)
    (h1 : (k : Int) ∈ offs → S' (offs ++ [(k : Int)]) K W) (h2 : (k : Int) ∉ offs → S' (offs ++ [(k : Int)]) (K ++ [(k : Int)]) (W ++ [(k : Int)])) :
    ∃ offs' K' W', FlK ns t a offs' P K' W' (N + 1) ∧ (∀ y ∈ l.take (j + 1), y ∈ K') ∧ S' offs' K' W' := by
  obtain ⟨g1, g2, g3, g4⟩ := hK
  have hlen : (offs ++ [(k : Int)]).length ≤ N + 1 := by rw [List.length_append]; exact Nat.add_le_add_right g3 1
  by_cases hk : (k : Int) ∈ offs
  · refine ⟨_, _, _, ⟨g1, g2, hlen, fun y => ?_⟩, fun y hy => ?_, h1 hk⟩
    · rw [List.mem_append, ← g4]
      exact ⟨fun q => q.elim id (fun q => by rw [List.mem_singleton] at q; subst q; exact hk), .inl⟩
    · rw [take_stepX hl] at hy
      rcases List.mem_append.1 hy with hy | hy
      · exact hn y hy
      · rw [List.mem_singleton] at hy; subst hy; exact (g4 _).1 hk
  · refine ⟨_, _, _, ⟨g1.offer (by rw [thB_nat]; exact hth) (fun q => hk ((g4 _).2 q)), g2, hlen, fun y => ?_⟩, fun y hy => ?_, h2 hk⟩
    · rw [List.mem_append, List.mem_append, g4]
    · rw [take_stepX hl] at hy
      rcases List.mem_append.1 hy with hy | hy
      · exact List.mem_append_left _ (hn y hy)
      · exact List.mem_append_right _ hy
theorem near_len {ns : List ND} (a : Int) : (nearI ns a 0).length ≤ (liveI ns).length := len_subG _ _ (nodup_nearG ns a 0) fun _ hx => mem_liveIG.2 (near_thereG hx)
theorem live_lenF (ns : List ND) : (liveI ns).length ≤ ns.length := lvI_le ns _
set_option maxRecDepth 100000 in
set_option maxHeartbeats 16000000 in
theorem flood (A : Option Addr) (n c : Nat) (ns : List ND) (en tp links : Int) (q : IS) (w : World) (hg : PgAt w w.heap.size A n c ns) (hq : q.Vec w w.heap.size) (hqn : q.n ≤ 1048576) :
    Calls Try.prog 4 #[.agg (pgL A n c en tp), .int .i64 links, q.v] w (RetB true w) := by
  obtain ⟨w1, hw1⟩ : ∃ x, w.alloc (.cells (pgL A n c en tp) 27) = x := ⟨_, rfl⟩
  obtain ⟨C1, b1⟩ := box_plane hw1
  have HG1 := Lib.hid ((hg.below b1).more b1.size)
  have HQ1 := Lib.hid ((hq.below b1).more b1.size)
  have HQN := Lib.hid hqn
  have HC1 := Lib.hid C1
  have HB1 := Lib.hid b1
  have HNL := Lib.hid hg.len
  have HBG := Lib.hid (begins6F w1)
  have HPC : Hid (∀ W, Below w1.heap.size w1 W → W.cell? ⟨w.heap.size, 0, none⟩ = some (.slice A n c) ∧ W.cell? ⟨w.heap.size, 1, none⟩ = some (.int .i64 en) ∧ W.cell? ⟨w.heap.size, 2, none⟩ = some (.int .i64 tp)) := fun W hb =>
    have h := HC1.out.below hb HC1.out.lt
    ⟨h.cell 0, h.cell 1, h.cell 2⟩
  have HGT : Hid (∀ W, Below w1.heap.size w1 W → PgAt W W.heap.size A n c ns) := fun W hb => (HG1.out.below hb).more hb.size
  have HQT : Hid (∀ W, Below w1.heap.size w1 W → q.Vec W W.heap.size) := fun W hb => (HQ1.out.below hb).more hb.size
  clear hg hq C1 b1 hqn
  unfold pgL at hw1 ⊢
  by_cases h20 : 20 < n
  · have t20 : decide ((n : Int) > 20) = true := decide_eq_true (by omega)
    have t20' : decide (20 < n) = true := decide_eq_true h20
    clear h20
    go_enter Try.func4, Try.ntmps4
    go_upto_region 1 with fail
    (try rw [hw1])
    clear hw1
    go_wp2_with (go_at_call 5; (with_reducible refine HBG.out.mono ?_); rintro e w2 ⟨rfl, hb⟩; have HB2 := Lib.hid hb; obtain ⟨z0, z1, z2⟩ := HPC.out w2 hb; clear hb)
    go_ret
    exact ⟨rfl, HB1.out.trans (HB2.out.mono HB1.out.size)⟩
  have hn20 : n ≤ 20 := by omega
  have t20 : decide ((n : Int) > 20) = false := decide_eq_false (by omega)
  have HCK : Hid (∀ W, Below w1.heap.size w1 W → Calls Try.prog 12 #[.agg #[.slice A n c, .int .i64 en, .int .i64 tp], .int .i64 links] W (RetE (chkW ns links en tp) W)) := fun W hb => pl_check A n c ns en tp links W (HGT.out W hb)
  cases hck : chkB ns links en tp
  · have hcw := chkW_no hck
    rw [hcw] at HCK
    clear h20 hck hcw
    go_enter Try.func4, Try.ntmps4
    go_upto_region 1 with fail
    (try rw [hw1])
    clear hw1
    go_wp2_with (first
      | (go_at_call 5; (with_reducible refine HBG.out.mono ?_); rintro e w2 ⟨rfl, hb⟩; have HB2 := Lib.hid hb; obtain ⟨z0, z1, z2⟩ := HPC.out w2 hb; clear hb)
      | (go_at_call 12; (refine (HCK.out w2 HB2.out).mono ?_); rintro e w3 ⟨rfl, hb⟩; have HB3 := Lib.hid (HB2.out.trans (hb.mono HB2.out.size)); clear hb))
    go_ret
    exact ⟨rfl, HB1.out.trans (HB3.out.mono HB1.out.size)⟩
  have hcw := chkW_yes hck
  rw [hcw] at HCK
  have HCB := Lib.hid hck
  have HN20 := Lib.hid hn20
  have HLV : Hid (∀ W, Below w1.heap.size w1 W → Calls Try.prog 13 #[.agg #[.slice A n c, .int .i64 en, .int .i64 tp]] W (RetI (liveI ns) W)) := fun W hb => pl_live A n c ns en tp W (HGT.out W hb)
  have HNR : Hid (∀ (a : Int) W, Below w1.heap.size w1 W → Calls Try.prog 15 #[.agg #[.slice A n c, .int .i64 en, .int .i64 tp], .int .i64 a, .int .i64 0] W (RetI (nearI ns a 0) W)) := fun a W hb => pl_near A n c ns en tp a 0 W (HGT.out W hb)
  clear h20 hck hcw
  go_enter Try.func4, Try.ntmps4
  go_upto_region 1 with fail
  (try rw [hw1])
  clear hw1
  go_upto_region 6 with (first
    | (go_at_call 5; (with_reducible refine HBG.out.mono ?_); rintro e w2 ⟨rfl, hb⟩; have HB2 := Lib.hid hb; obtain ⟨z0, z1, z2⟩ := HPC.out w2 hb; clear hb)
    | (go_at_call 12; (refine (HCK.out w2 HB2.out).mono ?_); rintro e w3 ⟨rfl, hb⟩; have HB3 := Lib.hid (HB2.out.trans (hb.mono HB2.out.size)); clear hb; obtain ⟨z3, z4, z5⟩ := HPC.out w3 HB3.out)
    | (go_at_call 13; (refine (HLV.out w3 HB3.out).mono ?_); rintro e w5 ⟨A5, m5, c5, rfl, ho, hb⟩; have HO5 := Lib.hid ho; have HB5 := Lib.hid (HB3.out.trans (hb.mono HB3.out.size)); clear hb ho))
  have HM5 : Hid ((liveI ns).length = m5) := HO5.out.rd.lenI
  have HML : Hid (m5 ≤ 20) := by
    show _ ≤ _
    have h1 := live_lenF ns
    have h2 := HN20.out
    rw [HNL.out, HM5.out] at h1
    omega
  have HNW := Lib.hid (pr_newS q m5 (by have := HML.out; omega) w5 (HQT.out w5 HB5.out) HQN.out)
  go_upto_region 7 with (go_at_call 14; (refine HNW.out.mono ?_); rintro e w6 ⟨pb, mb, qb, bb, qv, rfl, hb, hmb, _, hs⟩; have HB6 := Lib.hid hb; have HMB := Lib.hid hmb; have HS6 := Lib.hid hs; clear hb hmb hs)
  have HBS := Lib.hid HS6.out.b
  have hm5 : m5 ≤ 20 := HML.out
  go_upto_region 11 with fail
  clear HNW HBG HCK HLV
  go_loopw [9, 11, 12, 13, 39] (fun s9 _ _ _ s39 wr => ∃ (t : Nat) (a : Int) (offs P K W : List Int), s39 = .int .i64 t ∧ s9 = .int .i64 a ∧ Hid (FlK ns t a offs P K W (20 * t)) ∧ Hid (FlS wr (fun k => k = qb ∨ k = bb ∨ w6.heap.size ≤ k) pb mb qb bb qv m5 offs (spL_ qv ns K) (spL_ qv ns W)) ∧ Hid (Below w5.heap.size w5 wr) ∧ Hid (w6.heap.size ≤ wr.heap.size)) (fun _ _ _ _ s39 _ => m5 + 1 - (intOf s39).toNat)
  case atStart => exact ⟨0, 0, [], [], [], [], rfl, rfl, ⟨FlI.start ns, rfl, Nat.zero_le _, fun _ => Iff.rfl⟩, HS6.out, HB6.out, Lib.hid (Nat.le_refl _)⟩
  case round =>
    obtain ⟨t, a, offs, P, K, W, rfl, rfl, HK, HS, HB, HSZ⟩ := hrel
    obtain ⟨wo, rfl⟩ : ∃ wo : World, wo = wr := ⟨_, rfl⟩
    clear HS6
    have htm : t ≤ m5 := by
      obtain ⟨h1, h2, _, _⟩ := HK.out
      have := h1.lenP
      have := h1.lenK
      have := HM5.out
      omega
    have HTM := Lib.hid htm
    have tl : decide ((t : Int) < (m5 : Int) + 1) = true := decide_eq_true (by omega)
    have tl' : (t : Int) < (m5 : Int) + 1 := by omega
    have HBW : Hid (Below w1.heap.size w1 wo) := HB5.out.trans (HB.out.mono HB5.out.size)
    obtain ⟨z0, z1, z2⟩ := HPC.out wo HBW.out
    have HNE := Lib.hid (HNR.out a wo HBW.out)
    go_upto_region 13 with (go_at_call 15; (refine HNE.out.mono ?_); rintro e w7 ⟨A7, m7, c7, rfl, ho, hb⟩; have HO7 := Lib.hid ho; have HB7 := Lib.hid hb; clear hb ho)
    clear HNE
    have HM7 : Hid ((nearI ns a 0).length = m7) := HO7.out.rd.lenI
    have HM7L : Hid (m7 ≤ 20) := by
      show _ ≤ _
      have h1 := near_len (ns := ns) a
      rw [HM5.out, HM7.out] at h1
      have := HML.out
      omega
    have HA7 : Hid (∀ k o, A7 = some ⟨k, o, none⟩ → wo.heap.size ≤ k ∧ k < w7.heap.size) := fun k o e => by
      rcases HO7.out.2 with ⟨q, _⟩ | ⟨g, cap, cur, q, hg, hh, _⟩
      · rw [e] at q; cases q
      · rw [e] at q
        injection q with q _ _
        injection q with q
        injection q with q _ _
        subst q
        exact ⟨hg, (Array.getElem?_eq_some_iff.1 hh).1⟩
    have hm7 : m7 ≤ 20 := HM7L.out
    obtain ⟨Bs1, hBs1⟩ : ∃ Bs1 : Nat → Prop, Bs1 = fun k => (k = qb ∨ k = bb ∨ w6.heap.size ≤ k) ∧ ∀ o, A7 ≠ some ⟨k, o, none⟩ := ⟨_, rfl⟩
    have HB1S : Hid (∀ k, Bs1 k → (k = qb ∨ k = bb ∨ w6.heap.size ≤ k)) := fun k hk => by rw [hBs1] at hk; exact hk.1
    have HB1N : Hid (∀ k o, A7 = some ⟨k, o, none⟩ → ¬ (k = mb ∨ Bs1 k)) := fun k o e q => by
      rcases q with rfl | q
      · have h1 := (HA7.out _ _ e).1
        have h2 := HS.out.mlt
        omega
      · rw [hBs1] at q; exact q.2 o e
    have HB1G : Hid (∀ W : World, w7.heap.size ≤ W.heap.size → ∀ k, W.heap.size ≤ k → Bs1 k) := fun W hW k hk => by
      rw [hBs1]
      refine ⟨.inr (.inr ?_), fun o e => ?_⟩
      · have h1 := HSZ.out
        have h2 := HB7.out.size
        omega
      · have := (HA7.out _ _ e).2
        omega
    have HS7 : Hid (FlS w7 Bs1 pb mb qb bb qv m5 offs (spL_ qv ns K) (spL_ qv ns W)) := (HS.out.more (Bs' := Bs1) (fun k h1 h2 => by
      rw [hBs1]
      refine ⟨h2, fun o e => ?_⟩
      have := (HA7.out _ _ e).1
      omega) (fun k hk => HBS.out.2 k (HB1S.out k hk))).below HB7.out
    clear hBs1 HS
    go_loopw [11, 45] (fun _ s45 wr => ∃ (j : Nat) (offs K W : List Int), j ≤ m7 ∧ s45 = .int .i64 j ∧ Hid (FlK ns t a offs P K W (20 * t + j)) ∧ Hid (∀ y ∈ (nearI ns a 0).take j, y ∈ K) ∧ Hid (FlS wr Bs1 pb mb qb bb qv m5 offs (spL_ qv ns K) (spL_ qv ns W)) ∧ Hid (Tch (fun k => k = mb ∨ Bs1 k) w7 wr)) (fun _ s45 _ => m7 - (intOf s45).toNat)
    case atStart => exact ⟨0, offs, K, W, Nat.zero_le _, rfl, HK, (show ∀ y ∈ List.take 0 (nearI ns a 0), y ∈ K from fun y hy => by simp at hy), HS7, Lib.hid (Tch.refl _ _)⟩
    case round =>
      clear HK HS7
      obtain ⟨j, offs, K, W, hj, rfl, HK, HNK, HS, HT⟩ := hrel
      have HTB : Hid (Below w5.heap.size w5 wr) := (HB.out.trans (HB7.out.mono HB.out.size)).trans (HT.out.below (Nat.le_trans HB.out.size HB7.out.size) (fun k hk => by
        have h1 := HMB.out
        rcases hk with rfl | hk
        · exact h1
        · have := (HBS.out.2 k (HB1S.out k hk)).1
          omega))
      have HTW : Hid (Below w1.heap.size w1 wr) := HB5.out.trans (HTB.out.mono HB5.out.size)
      by_cases hlt : j < m7
      · obtain ⟨b7, o7, rfl, hb7, hc7⟩ := HO7.out.rd.atI hlt
        obtain ⟨y, hy⟩ : ∃ y, ig (nearI ns a 0) j = y := ⟨_, rfl⟩
        rw [hy] at hc7
        have hly : (nearI ns a 0)[j]? = some y := by
          rw [← hy, ig, List.getD_eq_getElem?_getD, List.getElem?_eq_getElem (by rw [HM7.out]; exact hlt)]
          rfl
        obtain ⟨k, rfl, hk⟩ := thB_nat_iff.1 (near_thereG (List.mem_of_getElem? hly))
        have hc8 := (HT.out.cell (p := ⟨b7, o7 + j, none⟩) hb7 (HB1N.out b7 o7 rfl)).trans hc7
        have hkn : k < n := by rw [← HNL.out]; exact thN_ltF hk
        have hk1 : 1 ≤ k := by
          unfold thN at hk
          simp only [Bool.and_eq_true, decide_eq_true_eq] at hk
          exact hk.1.1
        obtain ⟨b, o, d, rfl, hb, hd, hr, had⟩ := (HG1.out.below HTW.out).node hkn
        have LI := node_item hr
        have hsp : spO qv (ndI d) (k : Int) = spN qv ns k := by unfold spN spO; rw [nAt_of hd]; rfl
        have HOF := pr_offerS (by have := HML.out; omega) (k : Int) (wf_nat (by have := HN20.out; omega)) (ndI d) wr HS.out (had.1.vec.more (Nat.le_trans HB5.out.size HMB.out)) (fun k' hk' => HB1G.out wr HT.out.size k' hk') (by
          have h1 := HK.out.2.2.1
          have h2 := HML.out
          have h3 := HM7L.out
          have h4 := HTM.out
          omega) (by
          rw [spL_lenF]
          have h1 := HK.out.1.lenP
          have h2 := HK.out.1.lenK
          have h3 := HM5.out
          have h4 := HML.out
          omega)
        obtain ⟨it, hit⟩ : ∃ it, ndI d = it := ⟨_, rfl⟩
        rw [hit] at LI HOF hsp
        rw [hsp] at HOF
        replace HOF := Lib.hid HOF
        obtain ⟨y0, y1, y2⟩ := HPC.out wr HTW.out
        have hkI : ((k : Nat) : Int) < (n : Int) := by omega
        have t1 : decide (((k : Nat) : Int) < 1) = false := decide_eq_false (by omega)
        have t2 : decide (((k : Nat) : Int) ≥ (n : Int)) = false := decide_eq_false (by omega)
        have t2' : decide ((n : Int) ≤ ((k : Nat) : Int)) = false := decide_eq_false (by omega)
        have t2n : decide (n ≤ k) = false := decide_eq_false (by omega)
        have t1n : decide (k < 1) = false := decide_eq_false (by omega)
        have HLY := Lib.hid hly
        have HKT := Lib.hid hk
        have HLT := Lib.hid hlt
        clear hy hly hk hc7 hd hr had hit hsp hb hb7
        go_upto_region 18 with (first
          | refine wpList_loadE LI _ rfl rfl rfl ?_
          | (go_at_call 16; (with_reducible refine HOF.out.mono ?_); rintro e w9 ⟨r, rfl, ht, h1, h2⟩; have HT9 := Lib.hid ht; have HR9 := Lib.hid (flood_step (S' := fun offs' K' W' => FlS w9 Bs1 pb mb qb bb qv m5 offs' (spL_ qv ns K') (spL_ qv ns W')) HK.out HNK.out HLY.out HKT.out h1 (fun q => by rw [spL_snoc, spL_snoc]; exact (h2 q).2)); clear ht h1 h2))
        obtain ⟨offs', K', W', f1, f2, f3⟩ := HR9.out
        have F1 := Lib.hid f1
        have F2 := Lib.hid f2
        have F3 := Lib.hid f3
        clear f1 f2 f3 HR9
        go_wp2_with fail
        go_roundw
        case rel => exact ⟨j + 1, offs', K', W', by omega, by go_num, F1, F2, F3, Lib.hid (HT.out.trans HT9.out (fun k q => .inl q))⟩
        case measure => simp [intOf]; omega
      · obtain rfl : j = m7 := by omega
        have HNA : Hid (∀ y ∈ nearI ns a 0, y ∈ K) := by
          have h1 := HNK.out
          rw [List.take_of_length_le (by rw [HM7.out]; exact Nat.le_refl _)] at h1
          exact h1
        have HS8 : Hid (FlS wr (fun k => k = qb ∨ k = bb ∨ w6.heap.size ≤ k) pb mb qb bb qv m5 offs (spL_ qv ns K) (spL_ qv ns W)) := HS.out.more (fun k _ hk => HB1S.out k hk) HBS.out.2
        have hsz8 : w6.heap.size ≤ wr.heap.size := Nat.le_trans HSZ.out (Nat.le_trans HB7.out.size HT.out.size)
        have HSZ8 := Lib.hid hsz8
        clear HS hsz8 HNK
        have hwl : (spL_ qv ns W).length ≤ 1048576 := by
          rw [spL_lenF]
          have h1 := HK.out.1.lenP
          have h2 := HK.out.1.lenK
          have h3 := HM5.out
          have h4 := HML.out
          omega
        rcases pr_want HS8.out hwl with ⟨he, hw⟩ | hw
        · have HW := Lib.hid hw
          have HE : Hid ((∀ x, thB ns x = true → x ∈ K) ∧ K.length = (liveI ns).length) := by
            refine FlI.end_ HCB.out HK.out.1 HNA.out ?_
            rcases he with he | he
            · exact .inl (List.length_eq_zero_iff.1 (by rw [← spL_lenF qv ns W, he]; rfl))
            · refine .inr ?_
              rw [spL_lenF] at he
              rw [HM5.out]
              exact he
          have HOK : Hid (∀ y, y ∈ offs ↔ y ∈ K) := HK.out.2.2.2
          clear hw he hwl HK HNA HT HO7 HB7 HM7 HM7L HA7 HB1S HB1N HB1G
          go_upto_region 24 with (go_at_call 17; (with_reducible refine HW.out.mono ?_); rintro e w9 ⟨rfl, hb⟩; have HS9 := Lib.hid (HS8.out.below hb); have HB9 := Lib.hid (HTB.out.trans (hb.mono HTB.out.size)); clear hb)
          clear HW HS8 HTB HTW
          go_loopw [15, 79] (fun _ s79 wk => ∃ i : Nat, i ≤ m5 ∧ s79 = .int .i64 i ∧ Hid (Below w9.heap.size w9 wk)) (fun _ s79 _ => m5 - (intOf s79).toNat)
          case atStart => exact ⟨0, Nat.zero_le _, rfl, Lib.hid (Below.refl _ _)⟩
          case round =>
            obtain ⟨i, hi, rfl, hb⟩ := hrel
            by_cases hli : i < m5
            · obtain ⟨b5, o5, rfl, hb5, hc5⟩ := HO5.out.rd.atI hli
              obtain ⟨y, hy⟩ : ∃ y, ig (liveI ns) i = y := ⟨_, rfl⟩
              rw [hy] at hc5
              have hly : (liveI ns)[i]? = some y := by
                rw [← hy, ig, List.getD_eq_getElem?_getD, List.getElem?_eq_getElem (by rw [HM5.out]; exact hli)]
                rfl
              have hth := mem_liveIG.1 (List.mem_of_getElem? hly)
              have hyo : decide (y ∈ offs) = true := decide_eq_true ((HOK.out y).2 (HE.out.1 y hth))
              have hyw : (Lit.int .i64 y).wf = true := by
                have h1 := th_rangeG hth
                have h2 := HNL.out
                have h3 := HN20.out
                exact wf_i64 (by omega) (by omega)
              have hc6 := ((HB9.out.trans (hb.out.mono HB9.out.size)).cell (p := ⟨b5, o5 + i, none⟩) hb5).trans hc5
              have HKN := pr_knows (HS9.out.below hb.out) y hyw
              rw [hyo] at HKN
              replace HKN := Lib.hid HKN
              have HLI := Lib.hid hli
              clear hy hly hth hyo hyw hc5 hb5
              go_wp2_with (go_at_call 18; (with_reducible refine HKN.out.mono ?_); rintro e w10 ⟨rfl, hb'⟩; have HB10 := Lib.hid (hb.out.trans (hb'.mono hb.out.size)); clear hb')
              go_roundw
              case rel => exact ⟨i + 1, by omega, by go_num, HB10⟩
              case measure => simp [intOf]; omega
            · obtain rfl : i = m5 := by omega
              have HFN := Lib.hid (pr_found (by have := HML.out; omega) (HS9.out.below hb.out))
              go_wp2_with (go_at_call 19; (with_reducible refine HFN.out.mono ?_); rintro e w11 ⟨A11, n11, c11, rfl, hs, _, _, _, hb'⟩; obtain rfl : n11 = i := (by rw [← hs.len, List.length_take, sortSp_len, spL_lenF, HE.out.2, HM5.out]; omega); have HBF := Lib.hid ((HB9.out.trans (hb.out.mono HB9.out.size)).trans (hb'.mono (Nat.le_trans HB9.out.size hb.out.size))); clear hs hb')
              go_ret
              exact ⟨rfl, HB1.out.trans ((HB5.out.trans (HBF.out.mono HB5.out.size)).mono HB1.out.size)⟩
        · have HW := Lib.hid hw
          clear hw hwl
          go_upto_region 21 with (go_at_call 17; (with_reducible refine HW.out.mono ?_); rintro e w9 ⟨x, SW', rfl, hpm, hs, ht⟩; obtain ⟨z, W', hx, hz, hzp, hsw⟩ := spL_perm hpm; have hzt := HK.out.1.th z (HK.out.1.pm.mem_iff.1 (List.mem_append_right _ hz)); have hxs : x.s = z := (by rw [hx]; show ((z.toNat : Nat) : Int) = z; have := (th_rangeG hzt).1; omega); rw [hxs]; have HS9 := Lib.hid (hs.permW hsw); have HT9 := Lib.hid ht; have HZP := Lib.hid hzp; clear hpm hs ht hx hz hzp hsw hzt hxs)
          have HFK : Hid (FlK ns (t + 1) z offs (P ++ [z]) K W' (20 * (t + 1))) := by
            obtain ⟨g1, g2, g3, g4⟩ := HK.out
            refine ⟨g1.want HNA.out HZP.out, by rw [List.length_append, g2]; rfl, ?_, g4⟩
            have := HM7L.out
            omega
          have HBN : Hid (Below w5.heap.size w5 w9) := HTB.out.trans (HT9.out.below HTB.out.size (fun k hk => by
            have h1 := HMB.out
            have := (HBS.out.2 k hk).1
            omega))
          have HSN : Hid (w6.heap.size ≤ w9.heap.size) := Nat.le_trans HSZ8.out HT9.out.size
          go_wp2_with fail
          go_roundw
          case rel => exact ⟨t + 1, z, offs, P ++ [z], K, W', by go_num, rfl, HFK, HS9, HBN, HSN⟩
          case measure => simp [intOf]; omega
end Go.Proofs.Ytckclflbcgblaaa
