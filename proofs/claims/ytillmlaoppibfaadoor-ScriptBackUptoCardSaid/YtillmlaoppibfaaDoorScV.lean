/- Scripts: the rest of a line, as components. -/
import Derived.Test.YtillmlaoppibfaaDoorScT
import Derived.Test.YtillmlaoppibfaaDoorScG
import Derived.Laws.MakeOwn
namespace Go.Proofs.YtillmlaoppibfaaDoor
open Go.RowKit Go.Sort
def lenV : Value → Nat
  | .slice _ n _ => n
  | _ => 0
theorem info_i32v : (Tryd.prog.info? 21).map (fun i => (i.zero, i.size, i.bytes)) = some (some (.int .i32 0), 1, 4) := by kernel_rfl
/-- k words are read. -/
def VeS (w wr : World) (b : Nat) (ws : List (List UInt8)) (bad : Bool) (k : Nat) (v : Value) : Prop :=
  ∃ zs : List Int, wr.ownsRow w.heap.size 21 1 v k (zs.map (.int .i32)) ∧ (∀ vs, vecO (ws.take k) = some vs → zs = vs) ∧
    TkS wr b (ws.drop k) (bad || (vecO (ws.take k)).isNone) ∧ w.grownBy wr (some b)
/-- A word more is taken, n is read. -/
def VeM (w wr : World) (b : Nat) (ws : List (List UInt8)) (bad : Bool) (k : Nat) (zs : List Int) (n : Int) : Prop :=
  (∀ vs, vecO (ws.take (k + 1)) = some vs → zs ++ [n] = vs) ∧
    TkS wr b (ws.drop (k + 1)) (bad || (vecO (ws.take (k + 1))).isNone) ∧ w.grownBy wr (some b)
theorem VeM.push {w wr w' : World} {b : Nat} {ws : List (List UInt8)} {bad : Bool} {k : Nat} {zs : List Int} {n : Int} {v : Value} {g c : Nat} (h : VeM w wr b ws bad k zs n) (hs : w.heap.size ≤ wr.heap.size)
    (hgr : wr.grownBy w' v.ownBlock) (hv : ∀ q, v.ownBlock = some q → w.heap.size ≤ q) (hb : b < w.heap.size) (ho : w'.ownsRow w.heap.size 21 1 (.slice (some ⟨g, 0, none⟩) (k + 1) c) (k + 1) (zs.map (.int .i32) ++ [.int .i32 n])) :
    VeS w w' b ws bad (k + 1) (.slice (some ⟨g, 0, none⟩) (k + 1) c) := by
  obtain ⟨h1, h2, h3⟩ := h
  refine ⟨zs ++ [n], by rw [List.map_append]; exact ho, h1, ?_, ?_⟩
  · obtain ⟨h8, A, m, c', k1, k2, k3⟩ := h2
    have hne : ∀ q, q ≤ b → some q ≠ v.ownBlock := fun q hq e => by have := hv q e.symm; omega
    exact ⟨h8, A, m, c', k1.grown hgr (hne b (Nat.le_refl b)), k2, k3.keep fun p hp => by
      have := hgr.block p.block (by omega) (hne p.block (by omega))
      simp [World.cell?, this]⟩
  · exact h3.andThen hgr fun j hj => .inl (hv j hj)
theorem takeK {α : Type} {l : List α} {k : Nat} {x : α} (h : l[k]? = some x) : l.take (k + 1) = l.take k ++ [x] := by
  rw [List.take_add_one, h]; rfl
theorem dropK {α : Type} {l : List α} {k : Nat} {x : α} (h : l[k]? = some x) : l.drop k = x :: l.drop (k + 1) := by
  obtain ⟨hk, e⟩ := List.getElem?_eq_some_iff.1 h
  rw [List.drop_eq_getElem_cons hk, e]
theorem conv_i32 {n : Int} (h : -2147483648 ≤ n ∧ n ≤ 2147483647) (w : World) : (convert 2 21 (.int .i64 n)).run Tryd.prog w = .ok (.int .i32 n) w := by
  have e : IntKind.i32.wrap n = n := by rw [IntKind.wrap_i32]; omega
  have := run_convert_int (P := Tryd.prog) w 2 21 .i64 n (by kernel_rfl) (by kernel_rfl)
  rw [this, show Tryd.prog.intKind 21 = .i32 from by kernel_rfl, e]
theorem ptr_size (w : World) (p : Addr) (u : Value) : (Value.slice (some ⟨w.heap.size, 0, none⟩) 1 1) = .slice (some ⟨(w.setCell p u).heap.size, 0, none⟩) 1 1 := by
  rw [World.size_setCell]
set_option maxHeartbeats 8000000 in
set_option maxRecDepth 100000 in
/-- The rest of a line, as components. -/
theorem tk_vector (b : Nat) (ws : List (List UInt8)) (bad : Bool) (hl : ∀ l ∈ ws, l.length ≤ 4294967280) (hN : ws.length ≤ 1048576) (w : World) (he : Env w) (h : TkS w b ws bad) :
    Calls Tryd.prog 40 #[.pointer (some ⟨b, 0, none⟩)] w fun e w' => ∃ A c, e = .returned (.slice A ws.length c) ∧ VeS w w' b ws bad ws.length (.slice A ws.length c) := by
  obtain ⟨N, hNN⟩ : ∃ N, ws.length = N := ⟨_, rfl⟩
  rw [hNN] at hN ⊢
  have HE := Lib.hid he
  have HL := Lib.hid hl
  have HN := Lib.hid hNN
  have HBL := Lib.hid h.lt
  have H0 : Hid (VeS w w b ws bad 0 (.slice none 0 0)) := ⟨[], World.ownsRow_nil _ _ _ _, (fun vs q => by injection q), by rw [List.take_zero, show (vecO []).isNone = false from rfl, Bool.or_false]; exact h, World.grownBy.refl _ _⟩
  clear he hl hNN h
  go_enter Tryd.func40, Tryd.ntmps40
  go_wp2
  go_loopw [3, 4, 5, 6, 15] (fun s3 _ _ _ _ wr => ∃ (k : Nat) (A : Option Addr) (c : Nat), k ≤ N ∧ s3 = .slice A k c ∧ Hid (VeS w wr b ws bad k (.slice A k c))) (fun s3 _ _ _ _ _ => N - lenV s3)
  case atStart => exact ⟨0, none, 0, Nat.zero_le _, rfl, H0⟩
  case round =>
    clear H0
    obtain ⟨k, A, c, hk, rfl, HS⟩ := hrel
    obtain ⟨zs, ho, hv, ht, hg⟩ := HS.out
    have HVB : Hid (∀ q, (Value.slice A k c).ownBlock = some q → w.heap.size ≤ q) := fun q hq => (ho.lt q hq).1
    have HSW : Hid (VeS w wr b ws bad k (.slice A k c)) := ⟨zs, ho, hv, ht, hg⟩
    have c0 : ∃ A' c', wr.cell? ⟨b, 0, none⟩ = some (.slice A' (N - k) c') := by
      obtain ⟨_, A', n', c', h1, _, h3⟩ := ht
      have hln := h3.len
      rw [List.length_map, List.length_drop, HN.out] at hln
      rw [hln]
      exact ⟨A', c', h1.cell 0⟩
    obtain ⟨A', c', c0⟩ := c0
    rcases Nat.lt_or_ge k N with hlt | hge
    · obtain ⟨x, hx⟩ : ∃ x, ws[k]? = some x := ⟨_, List.getElem?_eq_getElem (by rw [HN.out]; exact hlt)⟩
      have HXL : Hid (x.length ≤ 4294967280) := HL.out x (List.mem_of_getElem? hx)
      have hnx := tk_next b (ws.drop k) _ wr ht
      rw [dropK hx, List.headD_cons, List.tail_cons, List.isEmpty_cons, Bool.or_false] at hnx
      have HNX := Lib.hid hnx
      have HTK := Lib.hid (takeK hx)
      have HO1 := Lib.hid ho
      have HV := Lib.hid hv
      have HG1 := Lib.hid hg
      have HT1 := Lib.hid ht
      clear hnx hx ho hv hg ht HS HSW
      have hgt : decide ((0 : Int) < ((N - k : Nat) : Int)) = true := by simp; omega
      unfold wv at HNX
      go_wp2_with (go_at_call 36; refine HNX.out.mono ?_)
      rintro e w1 ⟨rfl, ht1, hg1⟩
      have HE1 : Hid (Env w1) := (HE.out.below (below_of_only HG1.out (Nat.le_of_lt HBL.out) (Nat.le_refl b)) HT1.out.1).below (tk_below HT1.out hg1) HT1.out.1
      have HPI := Lib.hid (sc_int x HXL.out w1 HE1.out)
      have HT2 := Lib.hid ht1
      have HG2 := Lib.hid (HG1.out.trans hg1)
      have HO2 := Lib.hid (own_farS HO1.out hg1 HBL.out)
      clear ht1 hg1 c0 HNX HO1 HG1 HT1 hgt
      go_wp2_with (go_at_call 54; refine HPI.out.mono ?_)
      rintro e w2 ⟨n, err, rfl, hn, hb2, hc⟩
      have hcv := fun w => conv_i32 hn w
      have HNR := Lib.hid hn
      have HT3 := Lib.hid (HT2.out.grown hb2)
      have HG3 := Lib.hid (HG2.out.trans (only_of_below hb2 (some b)))
      have HO3 := Lib.hid (own_keepS HO2.out hb2)
      have HE2 := Lib.hid (HE1.out.on hb2)
      clear hb2 HPI HT2 HG2 HO2
      rcases hc with ⟨hp, rfl⟩ | ⟨hp, M, rfl⟩
      · have HF := Lib.hid (sc_itoa n (by omega) w2 HE2.out)
        by_cases hd : Lib.itoa n = x
        · have hbe : (Lib.itoa n == x) = true := by simp [hd]
          have HX : Hid (intO x = some n) := by show _ = _; unfold intO; rw [hp]; simp [hd]
          clear hp hd hn
          go_wp2_with (go_at_call 22; refine HF.out.mono ?_)
          rintro e w3 ⟨rfl, hb3⟩
          have HTW := Lib.hid (HT3.out.grown hb3)
          have HGW := Lib.hid (HG3.out.trans (only_of_below hb3 (some b)))
          have HOW := Lib.hid (own_keepS HO3.out hb3)
          clear hb3 HF
          have HM : Hid (VeM w w3 b ws bad k zs n) := by
            have e : vecO (ws.take (k + 1)) = (vecO (ws.take k)).bind fun zs => some (zs ++ [n]) := by rw [HTK.out, vecO_snoc, HX.out]; rfl
            refine ⟨fun vs h => ?_, ?_, HGW.out⟩
            · rw [e] at h
              cases q : vecO (ws.take k) with
              | none => rw [q] at h; cases h
              | some ys => rw [q] at h; injection h with h; rw [← h, HV.out ys q]
            · have e2 : (vecO (ws.take (k + 1))).isNone = (vecO (ws.take k)).isNone := by rw [e]; cases vecO (ws.take k) <;> rfl
              rw [e2]
              exact HTW.out
          have HO := HOW
          have HSZ : Hid (w.heap.size ≤ w3.heap.size) := HGW.out.size
          go_wp2_with (first
            | (at_builtin; refine wpList_pushS rfl (.tmp 31) (.tmp 34) 34 21 1 4 _ rfl Tryd.underlying34 info_i32v rfl (by decide) _ w.heap.size _ k _ #[.int .i32 n] rfl HO.out rfl rfl (fun u hu => by rcases (by simpa using hu : u = _) with rfl; rfl) (by omega) (by decide) HSZ.out ?_; intro g2 c2 w9 ho hgr hb9 hat))
          have HR := Lib.hid (HM.out.push HSZ.out hgr HVB.out HBL.out ho)
          clear ho hgr hb9 hat
          go_roundw
          case rel => exact ⟨k + 1, some ⟨g2, 0, none⟩, c2, by omega, rfl, HR⟩
          case measure => simp [lenV]; omega
        · have hbe : (Lib.itoa n == x) = false := by simp [hd]
          have HX : Hid (intO x = none) := by show _ = _; unfold intO; rw [hp]; simp [hd]
          clear hp hd hn
          go_wp2_with (go_at_call 22; refine HF.out.mono ?_)
          rintro e w3 ⟨rfl, hb3⟩
          have HTW := Lib.hid (HT3.out.grown hb3)
          have HGW := Lib.hid (HG3.out.trans (only_of_below hb3 (some b)))
          have HOW := Lib.hid (own_keepS HO3.out hb3)
          clear hb3 HF
          have f1 : w3.frozen? ⟨b, 1, none⟩ = false := by obtain ⟨_, A, m, c, h1, _⟩ := HTW.out; exact h1.frozen 1
          have hc1 : ∃ v, w3.cell? ⟨b, 1, none⟩ = some v := by obtain ⟨_, A, m, c, h1, _⟩ := HTW.out; exact ⟨_, h1.cell 1⟩
          obtain ⟨v1, hc1⟩ := hc1
          have HM : Hid (VeM w (w3.setCell ⟨b, 1, none⟩ (.bool true)) b ws bad k zs n) := by
            have e : vecO (ws.take (k + 1)) = none := by rw [HTK.out, vecO_snoc, HX.out]; cases vecO (ws.take k) <;> rfl
            refine ⟨fun vs h => (by rw [e] at h; cases h), ?_, only_setCell HGW.out 1 _⟩
            rw [e, show (bad || (none : Option (List Int)).isNone) = true by simp]
            exact HTW.out.bad_ true
          have HO : Hid (World.ownsRow (w3.setCell ⟨b, 1, none⟩ (.bool true)) w.heap.size 21 1 (.slice A k c) k (zs.map (.int .i32))) := own_farS HOW.out (only_setCell (World.grownBy.refl w3 _) 1 _) HBL.out
          have HSZ : Hid (w.heap.size ≤ (w3.setCell ⟨b, 1, none⟩ (.bool true)).heap.size) := (only_setCell HGW.out 1 _).size
          go_wp2_with (first
            | (at_builtin; refine wpList_pushS rfl (.tmp 31) (.tmp 34) 34 21 1 4 _ rfl Tryd.underlying34 info_i32v rfl (by decide) _ w.heap.size _ k _ #[.int .i32 n] rfl HO.out (ptr_size w3 _ _) rfl (fun u hu => by rcases (by simpa using hu : u = _) with rfl; rfl) (by omega) (by decide) HSZ.out ?_; intro g2 c2 w9 ho hgr hb9 hat))
          have HR := Lib.hid (HM.out.push HSZ.out hgr HVB.out HBL.out ho)
          clear ho hgr hb9 hat
          go_roundw
          case rel => exact ⟨k + 1, some ⟨g2, 0, none⟩, c2, by omega, rfl, HR⟩
          case measure => simp [lenV]; omega
      · have HX : Hid (intO x = none) := by
          show _ = _
          unfold intO
          split
          · rename_i z hz
            exact absurd hz (hp z)
          · rfl
        clear hp hn
        have HTW := HT3
        have HGW := HG3
        have HOW := HO3
        have f1 : w2.frozen? ⟨b, 1, none⟩ = false := by obtain ⟨_, A, m, c, h1, _⟩ := HTW.out; exact h1.frozen 1
        have hc1 : ∃ v, w2.cell? ⟨b, 1, none⟩ = some v := by obtain ⟨_, A, m, c, h1, _⟩ := HTW.out; exact ⟨_, h1.cell 1⟩
        obtain ⟨v1, hc1⟩ := hc1
        have HM : Hid (VeM w (w2.setCell ⟨b, 1, none⟩ (.bool true)) b ws bad k zs n) := by
          have e : vecO (ws.take (k + 1)) = none := by rw [HTK.out, vecO_snoc, HX.out]; cases vecO (ws.take k) <;> rfl
          refine ⟨fun vs h => (by rw [e] at h; cases h), ?_, only_setCell HGW.out 1 _⟩
          rw [e, show (bad || (none : Option (List Int)).isNone) = true by simp]
          exact HTW.out.bad_ true
        have HO : Hid (World.ownsRow (w2.setCell ⟨b, 1, none⟩ (.bool true)) w.heap.size 21 1 (.slice A k c) k (zs.map (.int .i32))) := own_farS HOW.out (only_setCell (World.grownBy.refl w2 _) 1 _) HBL.out
        have HSZ : Hid (w.heap.size ≤ (w2.setCell ⟨b, 1, none⟩ (.bool true)).heap.size) := (only_setCell HGW.out 1 _).size
        go_wp2_with (first
          | (at_builtin; refine wpList_pushS rfl (.tmp 31) (.tmp 34) 34 21 1 4 _ rfl Tryd.underlying34 info_i32v rfl (by decide) _ w.heap.size _ k _ #[.int .i32 n] rfl HO.out (ptr_size w2 _ _) rfl (fun u hu => by rcases (by simpa using hu : u = _) with rfl; rfl) (by omega) (by decide) HSZ.out ?_; intro g2 c2 w9 ho hgr hb9 hat))
        have HR := Lib.hid (HM.out.push HSZ.out hgr HVB.out HBL.out ho)
        clear ho hgr hb9 hat
        go_roundw
        case rel => exact ⟨k + 1, some ⟨g2, 0, none⟩, c2, by omega, rfl, HR⟩
        case measure => simp [lenV]; omega
    · have hkN : k = N := by omega
      subst hkN
      rw [Nat.sub_self] at c0
      clear ho hv hg ht HS
      go_wp2
      go_ret
      exact ⟨A, c, rfl, HSW.out⟩
end Go.Proofs.YtillmlaoppibfaaDoor
