/- What workers are seen to do: what lies in memory. -/
import Derived.Test.YtoodifpkconfcaaRcB
import Derived.Maps.Views
import Derived.Maps.OwnSet
import Derived.Maps.Own
import Derived.Maps.OwnOps
import Derived.Lib.SlKeysI
import Derived.WalkSmall
import Derived.Deep.WholeRow
import Derived.Test.YtoodifpkconfcaaRs
namespace Go.Proofs.Ytoodifpkconfcaa
open Go.RowKit Go.Maps Go.ChangeMaps Go.MapKept
/-- A map from ints, read as a function. -/
structure KvF {V : Type} (enc : V → DataW Unit) (D : DataW Unit) (f : Int → Option V) : Prop where
  tidy : Tidy D
  has_ : ∀ k : Int, has D (.int .i64 k) = (f k).isSome
  at_ : ∀ (k : Int) (v : V), f k = some v → ∀ z, D.atKey (.int .i64 k) z = enc v
  ks : ∀ u ∈ intKeys D, (f u).isSome = true
def upO {V : Type} (f : Int → Option V) (k : Int) (v : V) : Int → Option V := fun x => if x = k then some v else f x
theorem upO_self {V : Type} (f : Int → Option V) (k : Int) (v : V) : upO f k v k = some v := if_pos rfl
theorem upO_ne {V : Type} (f : Int → Option V) {k x : Int} (h : x ≠ k) (v : V) : upO f k v x = f x := if_neg h
theorem keyIR {a b : Int} (h : a ≠ b) : (Lit.int .i64 a) ≠ .int .i64 b := fun e => by injection e with _ e; exact h e
section
variable {V : Type} {enc : V → DataW Unit} {D : DataW Unit} {f : Int → Option V}
theorem KvF.nil : KvF enc (.map []) (fun _ => none) := ⟨tidy_empty, fun k => by simp [has], fun k v h => (by cases h), fun u h => (by simp [intKeys] at h)⟩
theorem KvF.put (h : KvF enc D f) (k : Int) (v : V) : KvF enc (D.put (.int .i64 k) (enc v)) (upO f k v) := by
  have hkey : WideAt.IsKeyLit (.int .i64 k) := trivial
  refine ⟨h.tidy.put hkey _, fun x => ?_, fun x u hx z => ?_, fun u hu => ?_⟩
  · by_cases e : x = k
    · subst e
      rw [has_put_same h.tidy.isMap hkey, upO_self]; rfl
    · rw [has_put_other (keyIR e), h.has_, upO_ne f e]
  · by_cases e : x = k
    · subst e
      rw [upO_self] at hx
      obtain rfl := Option.some.inj hx
      exact atKey_put_same h.tidy.isMap hkey _ _
    · rw [upO_ne f e] at hx
      rw [atKey_put_other (keyIR e), h.at_ x u hx]
  · obtain ⟨es, rfl⟩ := h.tidy.isMap
    rw [DataW.put_eq] at hu
    obtain ⟨p, hp, rfl⟩ := List.mem_map.1 (show u ∈ (putKey (.int .i64 k) (enc v) es).map fun p => intOf p.1 from hu)
    unfold putKey at hp
    rcases mem_insert_iff.1 hp with rfl | hp
    · show (upO f k v k).isSome = true
      rw [upO_self]; rfl
    · have := h.ks (intOf p.1) (List.mem_map.2 ⟨p, (List.mem_filter.1 hp).1, rfl⟩)
      unfold upO
      split
      · rfl
      · exact this
theorem KvF.miss (h : KvF enc D f) {k : Int} (hk : f k = none) (z : DataW Unit) : D.atKey (.int .i64 k) z = z := atKey_of_not_has (by rw [h.has_, hk]; rfl) z
end
/-- Clocks, as a map's elements. -/
def clEnc (c : List Int) : DataW Unit := .agg (c.map fun z => .lit (.int .i64 z))
def ints? : List Value → Option (List Int)
  | [] => some []
  | .int .i64 z :: r => (ints? r).map (z :: ·)
  | _ => none
theorem ints_mk : ∀ c : List Int, ints? (c.map (Value.int .i64)) = some c
  | [] => rfl
  | z :: c => by
    show (ints? (c.map (Value.int .i64))).map (z :: ·) = _
    rw [ints_mk c]; rfl
theorem ints_inv : ∀ {l : List Value} {c : List Int}, ints? l = some c → l = c.map (Value.int .i64)
  | [], c, h => by injection h with h; subst h; rfl
  | v :: l, c, h => by
    unfold ints? at h
    split at h
    · rename_i e; cases e
    · rename_i z r e
      injection e with e1 e2
      subst e1; subst e2
      obtain ⟨d, hd, rfl⟩ := Option.map_eq_some_iff.1 h
      rw [ints_inv hd]; rfl
    · cases h
def clElem (v : Value) : Option (DataW Unit × List MemPlace) :=
  match v with
  | .agg cs => (ints? cs.toList).map fun c => (clEnc c, [])
  | _ => none
theorem clElem_mk (c : List Int) : clElem (.agg (clC c)) = some (clEnc c, []) := by
  show (ints? (clC c).toList).map _ = _
  rw [show (clC c).toList = c.map (Value.int .i64) from by simp [clC], ints_mk]; rfl
theorem clElem_inv {v : Value} {z : DataW Unit × List MemPlace} (h : clElem v = some z) : ∃ c, v = .agg (clC c) ∧ z = (clEnc c, []) := by
  unfold clElem at h
  split at h
  · rename_i cs
    obtain ⟨c, hc, rfl⟩ := Option.map_eq_some_iff.1 h
    refine ⟨c, ?_, rfl⟩
    congr 1
    apply Array.toList_inj.1
    rw [ints_inv hc]
    simp [clC]
  · cases h
theorem clEnc_inj {c d : List Int} (h : clEnc c = clEnc d) : c = d := by
  unfold clEnc at h
  injection h with h
  exact (List.map_inj_right (fun a b h => by injection h with h; injection h with _ h)).1 h
/-- Notes of a place. -/
structure NtR where
  b : Nat
  rb : Nat
  ww : Nat
  wt : Int
  wr : Bool
  rs : Int → Option Int
def ptEnc (b : Nat) : DataW Unit := .lit (.int .i64 (b : Int))
def ntEnc (n : NtR) : DataW Unit := ptEnc n.b
def ptElem (v : Value) : Option (DataW Unit × List MemPlace) :=
  match v with
  | .pointer none => some (.nil, [])
  | .pointer (some ⟨b, 0, none⟩) => some (ptEnc b, [])
  | _ => none
theorem ptElem_mk (b : Nat) : ptElem (.pointer (some ⟨b, 0, none⟩)) = some (ptEnc b, []) := rfl
theorem ptElem_pt {v : Value} {ps : List MemPlace} {b : Nat} (h : ptElem v = some (ptEnc b, ps)) : v = .pointer (some ⟨b, 0, none⟩) := by
  unfold ptElem at h
  split at h
  · injection h with h; injection h with h _; cases h
  · rename_i b'
    injection h with h
    injection h with h _
    unfold ptEnc at h
    injection h with h
    injection h with _ h
    rw [show b' = b by omega]
  · cases h
theorem ptElem_nil {v : Value} {ps : List MemPlace} (h : ptElem v = some (.nil, ps)) : v = .pointer none := by
  unfold ptElem at h
  split at h
  · rfl
  · injection h with h; injection h with h _; cases h
  · cases h
def itEnc (z : Int) : DataW Unit := .lit (.int .i64 z)
theorem lawIR : Keyed Try.prog 3 := int_keyed Try.underlying3
def ntC (n : NtR) : Array Value := #[.int .i64 (n.ww : Int), .int .i64 n.wt, .bool n.wr, .map (some n.rb)]
/-- A watch's cells. -/
structure WtC (C : Array Value) (ck : Nat → List Int) (sy da : Nat) (sl : Value) : Prop where
  sz : C.size = 4228
  ck : ∀ u, u < 65 → ∀ i, i < 65 → C[u * 65 + i]? = some (.int .i64 (ig (ck u) i))
  sy : C[4225]? = some (.map (some sy))
  da : C[4226]? = some (.map (some da))
  sl : C[4227]? = some sl
/-- A watch: its box, what places know, the notes of data, the clashes; F: the blocks where all this lies. -/
structure RcS (w : World) (F : Nat → Prop) (xb sy da : Nat) (ck : Nat → List Int) (fs : Int → Option (List Int)) (nt : Int → Option NtR) (sl : Value) (m N : Nat) : Prop where
  x : ∃ C, Blk w xb 48 C ∧ WtC C ck sy da sl
  s : ∃ D, w.ownsMap Try.prog 3 clElem sy N D ∧ KvF clEnc D fs
  d : ∃ D, w.ownsMap Try.prog 3 ptElem da N D ∧ KvF ntEnc D nt
  n : ∀ k r, nt k = some r → Blk w r.b 59 (ntC r) ∧ ∃ D, w.ownsMap Try.prog 3 (plainElem Try.prog 3) r.rb N D ∧ KvF itEnc D r.rs
  c : ∃ xs, w.ownsRow 0 69 6 sl m xs ∧ ∀ u ∈ xs, u.oneCell' = true
  ckl : ∀ u, u < 65 → (ck u).length = 65
  fsl : ∀ k c, fs k = some c → c.length = 65
  inF : F xb ∧ F sy ∧ F da ∧ (∀ k r, nt k = some r → F r.b ∧ F r.rb) ∧ (∀ g, sl.ownBlock = some g → F g)
  ltF : ∀ x, F x → x < w.heap.size
  ap : xb ≠ sy ∧ xb ≠ da ∧ sy ≠ da
  apn : ∀ k r, nt k = some r → r.b ≠ r.rb ∧ r.b ≠ xb ∧ r.b ≠ sy ∧ r.b ≠ da ∧ r.rb ≠ xb ∧ r.rb ≠ sy ∧ r.rb ≠ da
  apm : ∀ k r k' r', nt k = some r → nt k' = some r' → k ≠ k' → r.b ≠ r'.b ∧ r.b ≠ r'.rb ∧ r.rb ≠ r'.b ∧ r.rb ≠ r'.rb
  apc : ∀ g, sl.ownBlock = some g → g ≠ xb ∧ g ≠ sy ∧ g ≠ da ∧ ∀ k r, nt k = some r → g ≠ r.b ∧ g ≠ r.rb
  nb : ∀ k r, nt k = some r → r.ww < 65 ∧ ∀ v t, r.rs v = some t → 0 ≤ v ∧ v < 65
theorem ownsMap_atR {w w' : World} {R : Value → Option (DataW Unit × List MemPlace)} {b n : Nat} {D : DataW Unit} (h : w.ownsMap Try.prog 3 R b n D) (hb : w'.heap[b]? = w.heap[b]?) : w'.ownsMap Try.prog 3 R b n D := by
  obtain ⟨es, clock, h1, h2⟩ := h
  exact ⟨es, clock, hb.trans h1, h2⟩
theorem ownsRow_atR {w w' : World} {base e sz n : Nat} {v : Value} {xs : List Value} (h : w.ownsRow base e sz v n xs) (hk : ∀ g, v.ownBlock = some g → w'.heap[g]? = w.heap[g]?) : w'.ownsRow base e sz v n xs := by
  refine ⟨h.1, ?_⟩
  rcases h.2 with h0 | ⟨g, cap, cur, rfl, hg, hh, h1, h2, h3, h4⟩
  · exact .inl h0
  · exact .inr ⟨g, cap, cur, rfl, hg, (hk g rfl).trans hh, h1, h2, h3, h4⟩
section
variable {w w' : World} {F : Nat → Prop} {xb sy da : Nat} {ck : Nat → List Int} {fs : Int → Option (List Int)} {nt : Int → Option NtR} {sl : Value} {m N : Nat}
theorem RcS.keep {S' : Nat → Prop} (S : RcS w F xb sy da ck fs nt sl m N) (hT : Tch S' w w') (hS : ∀ x, S' x → ¬ F x) : RcS w' F xb sy da ck fs nt sl m N := by
  have hk : ∀ x, F x → w'.heap[x]? = w.heap[x]? := fun x hx => hT.block x (S.ltF x hx) (fun q => hS x q hx)
  refine ⟨?_, ?_, ?_, fun k r hr => ?_, ?_, S.ckl, S.fsl, S.inF, fun x hx => Nat.lt_of_lt_of_le (S.ltF x hx) hT.size, S.ap, S.apn, S.apm, S.apc, S.nb⟩
  · obtain ⟨C, h1, h2⟩ := S.x; exact ⟨C, (hk _ S.inF.1).trans h1, h2⟩
  · obtain ⟨D, h1, h2⟩ := S.s; exact ⟨D, ownsMap_atR h1 (hk _ S.inF.2.1), h2⟩
  · obtain ⟨D, h1, h2⟩ := S.d; exact ⟨D, ownsMap_atR h1 (hk _ S.inF.2.2.1), h2⟩
  · obtain ⟨h1, D, h2, h3⟩ := S.n k r hr
    exact ⟨(hk _ (S.inF.2.2.2.1 k r hr).1).trans h1, D, ownsMap_atR h2 (hk _ (S.inF.2.2.2.1 k r hr).2), h3⟩
  · obtain ⟨xs, h, h1c⟩ := S.c; exact ⟨xs, ownsRow_atR h (fun g hg => hk g (S.inF.2.2.2.2 g hg)), h1c⟩
theorem RcS.below (S : RcS w F xb sy da ck fs nt sl m N) (hb : Below w.heap.size w w') : RcS w' F xb sy da ck fs nt sl m N := S.keep (Tch.of_below (S := fun _ => False) hb) (fun _ q => q.elim)
theorem RcS.more {N' : Nat} (S : RcS w F xb sy da ck fs nt sl m N) (h : N ≤ N') : RcS w F xb sy da ck fs nt sl m N' := by
  refine ⟨S.x, ?_, ?_, fun k r hr => ?_, S.c, S.ckl, S.fsl, S.inF, S.ltF, S.ap, S.apn, S.apm, S.apc, S.nb⟩
  · obtain ⟨D, h1, h2⟩ := S.s; exact ⟨D, h1.mono h, h2⟩
  · obtain ⟨D, h1, h2⟩ := S.d; exact ⟨D, h1.mono h, h2⟩
  · obtain ⟨h1, D, h2, h3⟩ := S.n k r hr; exact ⟨h1, D, h2.mono h, h3⟩
/-- A worker's clock, where it lies. -/
theorem RcS.clock (S : RcS w F xb sy da ck fs nt sl m N) {u : Nat} (hu : u < 65) : w.rangeAt xb (u * 65) (clC (ck u)).toList := by
  obtain ⟨C, h1, h2⟩ := S.x
  intro j v hv
  have hj : j < 65 := by
    have := (List.getElem?_eq_some_iff.1 hv).1
    rw [Array.length_toList, clC_size, S.ckl u hu] at this
    exact this
  rw [h1.cell, h2.ck u hu j hj]
  rw [Array.getElem?_toList, clC_get (by rw [S.ckl u hu]; exact hj)] at hv
  exact hv
theorem RcS.load (S : RcS w F xb sy da ck fs nt sl m N) {u : Nat} (hu : u < 65) : (Instr.loadAt 45 (.pointer (some ⟨xb, u * 65, none⟩))).run Try.prog w = .ok (.agg (clC (ck u))) w :=
  range_load (S.clock hu) Try.underlying45 rfl (by rw [clC_size, S.ckl u hu]; exact clTN)
theorem RcS.symap (S : RcS w F xb sy da ck fs nt sl m N) : w.cell? ⟨xb, 4225, none⟩ = some (.map (some sy)) := by obtain ⟨C, h1, h2⟩ := S.x; exact (h1.cell _).trans h2.sy
theorem RcS.damap (S : RcS w F xb sy da ck fs nt sl m N) : w.cell? ⟨xb, 4226, none⟩ = some (.map (some da)) := by obtain ⟨C, h1, h2⟩ := S.x; exact (h1.cell _).trans h2.da
theorem RcS.slc (S : RcS w F xb sy da ck fs nt sl m N) : w.cell? ⟨xb, 4227, none⟩ = some sl := by obtain ⟨C, h1, h2⟩ := S.x; exact (h1.cell _).trans h2.sl
def upC (ck : Nat → List Int) (u : Nat) (c : List Int) : Nat → List Int := fun x => if x = u then c else ck x
/-- A worker's clock is written. -/
theorem RcS.setClock (S : RcS w F xb sy da ck fs nt sl m N) {u : Nat} (hu : u < 65) {c : List Int} (hc : c.length = 65) :
    (Instr.storeAt 45 (.pointer (some ⟨xb, u * 65, none⟩)) (.agg (clC c))).run Try.prog w = .ok () (w.setCells xb (u * 65) (clC c).toList) ∧ RcS (w.setCells xb (u * 65) (clC c).toList) F xb sy da (upC ck u c) fs nt sl m N ∧ Tch F w (w.setCells xb (u * 65) (clC c).toList) := by
  obtain ⟨C, h1, h2⟩ := S.x
  have hl : (clC c).toList.length = 65 := by rw [Array.length_toList, clC_size, hc]
  have hT : Tch (fun x => x = xb) w (w.setCells xb (u * 65) (clC c).toList) := Tch.setCells (S := fun x => x = xb) rfl _ _ w (Tch.refl _ w)
  refine ⟨row_store_mid h1 (u * 65) (clC c) (by rw [clC_size, hc, h2.sz]; omega) (by rw [clC_size, hc]; exact clTN) (clC_one c), ?_, hT.mono (fun k _ e => by rw [e]; exact S.inF.1)⟩
  have hk : ∀ x, F x → x ≠ xb → (w.setCells xb (u * 65) (clC c).toList).heap[x]? = w.heap[x]? := fun x hx hne => hT.block x (S.ltF x hx) hne
  refine ⟨?_, ?_, ?_, fun k r hr => ?_, ?_, fun x hx => ?_, S.fsl, S.inF, fun x hx => Nat.lt_of_lt_of_le (S.ltF x hx) hT.size, S.ap, S.apn, S.apm, S.apc, S.nb⟩
  · obtain ⟨C', k1, k2, k3⟩ := Blk.setCells (clC c).toList (u * 65) w C h1
    rw [hl] at k3
    have hsz := h2.sz
    refine ⟨C', k1, k2.trans h2.sz, fun x hx i hi => ?_, ?_, ?_, ?_⟩
    · rw [k3]
      unfold upC
      by_cases e : x = u
      · subst e
        rw [if_pos (by omega), if_pos rfl, Array.getElem?_toList, show x * 65 + i - x * 65 = i from by omega, clC_get (by rw [hc]; exact hi)]
      · rw [if_neg (by omega), if_neg e]
        exact h2.ck x hx i hi
    · rw [k3, if_neg (by omega)]; exact h2.sy
    · rw [k3, if_neg (by omega)]; exact h2.da
    · rw [k3, if_neg (by omega)]; exact h2.sl
  · obtain ⟨D, q1, q2⟩ := S.s; exact ⟨D, ownsMap_atR q1 (hk _ S.inF.2.1 S.ap.1.symm), q2⟩
  · obtain ⟨D, q1, q2⟩ := S.d; exact ⟨D, ownsMap_atR q1 (hk _ S.inF.2.2.1 S.ap.2.1.symm), q2⟩
  · obtain ⟨q1, D, q2, q3⟩ := S.n k r hr
    have := S.apn k r hr
    exact ⟨(hk _ (S.inF.2.2.2.1 k r hr).1 this.2.1).trans q1, D, ownsMap_atR q2 (hk _ (S.inF.2.2.2.1 k r hr).2 this.2.2.2.2.1), q3⟩
  · obtain ⟨xs, h, h1c⟩ := S.c; exact ⟨xs, ownsRow_atR h (fun g hg => hk g (S.inF.2.2.2.2 g hg) (S.apc g hg).1), h1c⟩
  · unfold upC
    split
    · exact hc
    · exact S.ckl x hx
/-- A place comes to know. -/
theorem RcS.setSync (S : RcS w F xb sy da ck fs nt sl m N) (hN : N < 1048576) (p : Int) (hp : (Lit.int .i64 p).wf = true) {c : List Int} (hc : c.length = 65) :
    ∃ w2, (Instr.mapUpdate 42 (.map (some sy)) (.int .i64 p) (.agg (clC c))).run Try.prog w = .ok () w2 ∧ RcS w2 F xb sy da ck (upO fs p c) nt sl m (N + 1) ∧ Tch F w w2 := by
  obtain ⟨D, h1, h2⟩ := S.s
  obtain ⟨w2, hrun, h3, hg⟩ := World.ownsMap.update h1 lawIR Try.underlying42 (show N < maxLen by unfold maxLen; omega) (keyOf_int_mk (P := Try.prog) Try.underlying3 hp) (clElem_mk c)
  have hT : Tch (fun x => x = sy) w w2 := ⟨hg.os, hg.tape, hg.output, hg.size, fun k hk hn => hg.block k hk (fun e => hn (by injection e))⟩
  have hk : ∀ x, F x → x ≠ sy → w2.heap[x]? = w.heap[x]? := fun x hx hne => hT.block x (S.ltF x hx) hne
  refine ⟨w2, hrun, ⟨?_, ⟨_, h3, h2.put p c⟩, ?_, fun k r hr => ?_, ?_, S.ckl, fun k d hd => ?_, S.inF, fun x hx => Nat.lt_of_lt_of_le (S.ltF x hx) hT.size, S.ap, S.apn, S.apm, S.apc, S.nb⟩, hT.mono (fun k _ e => by rw [e]; exact S.inF.2.1)⟩
  · obtain ⟨C, q1, q2⟩ := S.x; exact ⟨C, (hk _ S.inF.1 S.ap.1).trans q1, q2⟩
  · obtain ⟨D, q1, q2⟩ := S.d; exact ⟨D, (ownsMap_atR q1 (hk _ S.inF.2.2.1 S.ap.2.2.symm)).mono (Nat.le_succ _), q2⟩
  · obtain ⟨q1, D, q2, q3⟩ := S.n k r hr
    have := S.apn k r hr
    exact ⟨(hk _ (S.inF.2.2.2.1 k r hr).1 this.2.2.1).trans q1, D, (ownsMap_atR q2 (hk _ (S.inF.2.2.2.1 k r hr).2 this.2.2.2.2.2.1)).mono (Nat.le_succ _), q3⟩
  · obtain ⟨xs, h, h1c⟩ := S.c; exact ⟨xs, ownsRow_atR h (fun g hg' => hk g (S.inF.2.2.2.2 g hg') (S.apc g hg').2.1), h1c⟩
  · by_cases e : k = p
    · subst e
      rw [upO_self] at hd
      obtain rfl := Option.some.inj hd
      exact hc
    · rw [upO_ne fs e] at hd
      exact S.fsl k d hd
/-- What a place knows. -/
def syC (fs : Int → Option (List Int)) (p : Int) : List Int := (fs p).getD cl0
theorem zeroC : ∀ w, (zeroValue 45).run Try.prog w = .ok (.agg (clC cl0)) w := by
  have h : (Try.prog.info? 45).map (fun i => (i.zero, i.size)) = some (some (.agg (clC cl0)), 65) := by kernel_rfl
  exact (zero_of_info h).1
set_option maxRecDepth 100000 in
theorem RcS.sync (S : RcS w F xb sy da ck fs nt sl m N) (p : Int) (hp : (Lit.int .i64 p).wf = true) :
    (Instr.lookup 42 (.map (some sy)) (.int .i64 p) false).run Try.prog w = .ok (.agg (clC (syC fs p))) w ∧ (syC fs p).length = 65 := by
  obtain ⟨D, h1, h2⟩ := S.s
  obtain ⟨v, ps, hrun, hv⟩ := World.ownsMap.lookup h1 lawIR Try.underlying42 (zeroC w) (clElem_mk cl0) (keyOf_int_mk (P := Try.prog) Try.underlying3 hp)
  obtain ⟨c, rfl, hz⟩ := clElem_inv hv
  have hc : clEnc c = D.atKey (.int .i64 p) (clEnc cl0) := by injection hz with h _; exact h.symm
  unfold syC
  cases hf : fs p with
  | none =>
    rw [h2.miss hf] at hc
    rw [clEnc_inj hc] at hrun
    exact ⟨hrun, cl0_len⟩
  | some d =>
    rw [h2.at_ p d hf] at hc
    rw [clEnc_inj hc] at hrun
    exact ⟨hrun, S.fsl p d hf⟩
end
end Go.Proofs.Ytoodifpkconfcaa
