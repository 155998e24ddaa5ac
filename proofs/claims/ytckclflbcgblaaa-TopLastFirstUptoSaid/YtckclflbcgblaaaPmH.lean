/- Planes: what two planes have alike, wherever they lie. -/
import Derived.Test.YtckclflbcgblaaaPmG
namespace Go.Proofs.Ytckclflbcgblaaa
open Go.RowKit Go.Maps Go.ChangeMaps Go.MapKept
def IS.norm (l : IS) : IS := ⟨none, l.n, l.n, l.xs⟩
/-- A node without its places. -/
def ND.norm (d : ND) : ND := ⟨d.id, d.vec.norm, d.tags, d.level, none, d.ln, d.ln, d.ls.map IS.norm, d.next, d.prev⟩
def Eqv (ns ns' : List ND) : Prop := ns.map ND.norm = ns'.map ND.norm
theorem Eqv.refl (ns : List ND) : Eqv ns ns := rfl
theorem Eqv.symm {ns ns' : List ND} (h : Eqv ns ns') : Eqv ns' ns := Eq.symm h
theorem Eqv.trans {ns ns' ns'' : List ND} (h : Eqv ns ns') (h' : Eqv ns' ns'') : Eqv ns ns'' := Eq.trans h h'
theorem Eqv.len {ns ns' : List ND} (h : Eqv ns ns') : ns.length = ns'.length := by simpa using congrArg List.length h
theorem Eqv.set {ns ns' : List ND} (h : Eqv ns ns') (i : Nat) {d d' : ND} (hd : d.norm = d'.norm) : Eqv (ns.set i d) (ns'.set i d') := by
  unfold Eqv at h ⊢
  rw [List.map_set, List.map_set, h, hd]
theorem Eqv.get {ns ns' : List ND} (h : Eqv ns ns') {i : Nat} {d : ND} (hd : ns[i]? = some d) : ∃ d', ns'[i]? = some d' ∧ d.norm = d'.norm := by
  have h1 := congrArg (·[i]?) h
  simp only [List.getElem?_map, hd, Option.map_some] at h1
  cases h2 : ns'[i]? with
  | none => rw [h2] at h1; cases h1
  | some d' => rw [h2] at h1; injection h1 with h1; exact ⟨d', rfl, h1⟩
theorem Eqv.set1 {ns ns' : List ND} (h : Eqv ns ns') {i : Nat} {d d' : ND} (hd : ns'[i]? = some d) (he : d'.norm = d.norm) : Eqv ns (ns'.set i d') := by
  unfold Eqv at h ⊢
  rw [h, List.map_set, he]
  refine List.ext_getElem? fun q => ?_
  by_cases hq : i = q
  · subst hq
    have := (List.getElem?_eq_some_iff.1 hd).1
    rw [List.getElem?_set_self (by simpa using this), List.getElem?_map, hd]; rfl
  · rw [List.getElem?_set_ne hq]
section
variable (ns : List ND)
theorem nAt_norm (i : Nat) : nAt (ns.map ND.norm) i = (nAt ns i).norm := by
  unfold nAt
  rw [List.getD_eq_getElem?_getD, List.getD_eq_getElem?_getD, List.getElem?_map]
  cases ns[i]? <;> rfl
theorem lsAt_norm (d : ND) (k : Nat) : (lsAt d.norm k).xs = (lsAt d k).xs := by
  unfold lsAt
  rw [List.getD_eq_getElem?_getD, List.getD_eq_getElem?_getD]
  show (((d.ls.map IS.norm)[k]?).getD _).xs = _
  rw [List.getElem?_map]
  cases d.ls[k]? <;> rfl
theorem thN_norm (i : Nat) : thN (ns.map ND.norm) i = thN ns i := by
  unfold thN
  rw [List.length_map, nAt_norm]; rfl
theorem thB_norm (s : Int) : thB (ns.map ND.norm) s = thB ns s := by unfold thB; rw [thN_norm]
theorem lvI_norm (k : Nat) : lvI (ns.map ND.norm) k = lvI ns k := by
  unfold lvI
  congr 1
  exact List.filter_congr fun i _ => thN_norm ns i
theorem liveI_norm : liveI (ns.map ND.norm) = liveI ns := by unfold liveI; rw [List.length_map, lvI_norm]
theorem ringGo_norm : ∀ (f : Nat) (out : List Int) (a : Int), ringGo (ns.map ND.norm) f out a = ringGo ns f out a
  | 0, _, _ => rfl
  | f + 1, out, a => by
    unfold ringGo
    rw [thB_norm, nAt_norm]
    show (if _ then ringGo (ns.map ND.norm) f _ (nAt ns a.toNat).next else _) = _
    rw [ringGo_norm f]
theorem ringI_norm : ringI (ns.map ND.norm) = ringI ns := by
  unfold ringI
  rw [List.length_map, nAt_norm, ringGo_norm]; rfl
theorem rOk_norm (i : Nat) : rOk (ns.map ND.norm) i = rOk ns i := by
  unfold rOk bareB placeB
  rw [thN_norm, nAt_norm]
  show (if _ then _ else ((nAt ns i).next == 0 || thB (ns.map ND.norm) (nAt ns i).next) && ((nAt ns i).prev == 0 || thB (ns.map ND.norm) (nAt ns i).prev) && ((nAt (ns.map ND.norm) (nAt ns i).next.toNat).prev == (i : Int))) = _
  rw [thB_norm, thB_norm, nAt_norm]; rfl
theorem ringB_norm : ringB (ns.map ND.norm) = ringB ns := by
  unfold ringB
  rw [ringI_norm, liveI_norm, List.length_map]
  congr 1
  exact List.all_congr rfl fun i => rOk_norm ns i
theorem backB_norm (slot level : Nat) (x : Int) : backB (ns.map ND.norm) slot level x = backB ns slot level x := by
  unfold backB
  rw [thB_norm, nAt_norm, lsAt_norm]; rfl
theorem listB_norm (slot level : Nat) (links : Int) : listB (ns.map ND.norm) slot level links = listB ns slot level links := by
  unfold listB
  rw [nAt_norm, lsAt_norm, List.length_map]
  congr 1
  exact List.all_congr rfl fun x => backB_norm ns slot level x
theorem nodeB_norm (slot : Nat) (links : Int) : nodeB (ns.map ND.norm) slot links = nodeB ns slot links := by
  unfold nodeB listsB onceB idI
  rw [nAt_norm, liveI_norm]
  have e1 : (List.range (nAt ns slot).norm.ln).all (fun l => listB (ns.map ND.norm) slot l links) = (List.range (nAt ns slot).ln).all (fun l => listB ns slot l links) := List.all_congr rfl fun l => listB_norm ns slot l links
  have e2 : (liveI ns).all (fun x => !((x != (slot : Int)) && ((nAt (ns.map ND.norm) x.toNat).id == (nAt (ns.map ND.norm) (slot : Int).toNat).id))) = (liveI ns).all (fun x => !((x != (slot : Int)) && ((nAt ns x.toNat).id == (nAt ns (slot : Int).toNat).id))) := List.all_congr rfl fun x => by rw [nAt_norm, nAt_norm]; rfl
  rw [e1, e2]; rfl
theorem entB_norm (en tp : Int) : entB (ns.map ND.norm) en tp = entB ns en tp := by
  unfold entB
  rw [thB_norm, nAt_norm]; rfl
theorem chkB_norm (links en tp : Int) : chkB (ns.map ND.norm) links en tp = chkB ns links en tp := by
  unfold chkB
  rw [List.length_map, ringB_norm, liveI_norm, entB_norm]
  congr 2
  exact List.all_congr rfl fun x => nodeB_norm ns x.toNat links
theorem nearSrc_norm (k : Nat) (level : Int) : nearSrc (ns.map ND.norm) k level = nearSrc ns k level := by
  unfold nearSrc
  rw [nAt_norm, lsAt_norm, show (nAt ns k).norm.ls.length = (nAt ns k).ls.length from List.length_map ..]; rfl
theorem nearQ_norm (l : List Int) : nearQ (ns.map ND.norm) l = nearQ ns l := by
  funext i
  unfold nearQ
  rw [thB_norm]
theorem nearI_norm (s level : Int) : nearI (ns.map ND.norm) s level = nearI ns s level := by
  unfold nearI
  rw [List.length_map, nearSrc_norm, nearQ_norm]
end
section
variable {ns ns' : List ND}
theorem Eqv.thB (h : Eqv ns ns') (s : Int) : thB ns s = Proofs.Ytckclflbcgblaaa.thB ns' s := by rw [← thB_norm, h, thB_norm]
theorem Eqv.live (h : Eqv ns ns') : liveI ns = liveI ns' := by rw [← liveI_norm, h, liveI_norm]
theorem Eqv.ring (h : Eqv ns ns') : ringI ns = ringI ns' := by rw [← ringI_norm, h, ringI_norm]
theorem Eqv.near (h : Eqv ns ns') (s level : Int) : nearI ns s level = nearI ns' s level := by rw [← nearI_norm, h, nearI_norm]
theorem Eqv.chk (h : Eqv ns ns') (links en tp : Int) : chkB ns links en tp = chkB ns' links en tp := by rw [← chkB_norm, h, chkB_norm]
theorem Eqv.chkW (h : Eqv ns ns') (links en tp : Int) : chkW ns links en tp = Proofs.Ytckclflbcgblaaa.chkW ns' links en tp := by unfold Proofs.Ytckclflbcgblaaa.chkW; rw [h.chk]
theorem Eqv.nAt (h : Eqv ns ns') (i : Nat) : (nAt ns i).norm = (Proofs.Ytckclflbcgblaaa.nAt ns' i).norm := by rw [← nAt_norm, h, nAt_norm]
end
end Go.Proofs.Ytckclflbcgblaaa
