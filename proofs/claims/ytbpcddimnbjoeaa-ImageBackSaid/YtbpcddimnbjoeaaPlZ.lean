/- Planes: whether a node is right, plainly. -/
import Derived.Test.YtbpcddimnbjoeaaPlY
import Derived.Test.YtbpcddimnbjoeaaPlU
namespace Go.Proofs.Ytbpcddimnbjoeaa
open Go.RowKit Go.Maps Go.ChangeMaps Go.MapKept
def shapeB (d : ND) : Bool := !decide (d.level < 0) && !decide (d.level > 7) && !((d.ln : Int) != d.level + 1)
def listsB (ns : List ND) (slot : Nat) (links : Int) : Bool := (List.range (nAt ns slot).ln).all (fun l => listB ns slot l links)
def idI (ns : List ND) (x : Int) : Int := (nAt ns x.toNat).id
def onceB (ns : List ND) (slot : Nat) : Bool := (liveI ns).all (fun x => !((x != (slot : Int)) && (idI ns x == idI ns slot)))
def nodeB (ns : List ND) (slot : Nat) (links : Int) : Bool := shapeB (nAt ns slot) && listsB ns slot links && onceB ns slot
theorem ND.At.cap {w : World} {B : Nat} {d : ND} (h : d.At w B) {i : Nat} (hi : i < d.ln) : (lsAt d i).n ≤ (lsAt d i).c := by
  have hl : i < d.ls.length := by rw [h.len]; exact hi
  unfold lsAt
  rw [List.getD_eq_getElem?_getD, List.getElem?_eq_getElem hl]
  exact h.2.2.2.2.2.2.2.2.2 _ (List.getElem_mem hl)
theorem lists_bad {ns : List ND} {slot k : Nat} {links : Int} (hk : k < (nAt ns slot).ln) (h : listB ns slot k links = false) : listsB ns slot links = false := by
  unfold listsB
  rw [List.all_eq_false]
  exact ⟨k, List.mem_range.mpr hk, by rw [h]; simp⟩
theorem lists_all {ns : List ND} {slot : Nat} {links : Int} (h : ∀ k, k < (nAt ns slot).ln → listB ns slot k links = true) : listsB ns slot links = true := by
  unfold listsB
  rw [List.all_eq_true]
  intro k hk
  exact h k (List.mem_range.mp hk)
theorem all_bad_ig {xs : List Int} {p : Int → Bool} {k : Nat} (hk : k < xs.length) (h : p (ig xs k) = false) : xs.all p = false := by
  rw [List.all_eq_false]
  refine ⟨ig xs k, ?_, by rw [h]; simp⟩
  unfold ig
  rw [List.getD_eq_getElem?_getD, List.getElem?_eq_getElem hk]
  exact List.getElem_mem hk
theorem all_all_ig {xs : List Int} {p : Int → Bool} (h : ∀ k, k < xs.length → p (ig xs k) = true) : xs.all p = true := by
  rw [List.all_eq_true]
  intro x hx
  obtain ⟨k, hk, rfl⟩ := List.getElem_of_mem hx
  have := h k hk
  unfold ig at this
  rwa [List.getD_eq_getElem?_getD, List.getElem?_eq_getElem hk] at this
theorem inj_nodup (f : Int → Int) : ∀ l : List Int, (l.map f).Nodup → ∀ a ∈ l, ∀ b ∈ l, f a = f b → a = b
  | [], _ => fun _ h => absurd h (by simp)
  | c :: l, h => by
    rw [List.map_cons, List.nodup_cons] at h
    intro a ha b hb e
    rcases List.mem_cons.mp ha with rfl | ha'
    · rcases List.mem_cons.mp hb with rfl | hb'
      · rfl
      · exact absurd (by rw [e]; exact List.mem_map_of_mem hb') h.1
    · rcases List.mem_cons.mp hb with rfl | hb'
      · exact absurd (by rw [← e]; exact List.mem_map_of_mem ha') h.1
      · exact inj_nodup f l h.2 a ha' b hb' e
theorem all_once (f : Int → Int) : ∀ l : List Int, l.Nodup → (l.all (fun s => l.all (fun x => !((x != s) && (f x == f s)))) = decide (l.map f).Nodup) := by
  intro l hl
  rw [Bool.eq_iff_iff, decide_eq_true_iff]
  simp only [List.all_eq_true, Bool.not_eq_true', Bool.and_eq_false_iff, bne_eq_false_iff_eq, beq_eq_false_iff_ne]
  constructor
  · intro h
    rw [List.nodup_iff_pairwise_ne, List.pairwise_map]
    have hp := List.nodup_iff_pairwise_ne.mp hl
    refine List.Pairwise.imp_of_mem ?_ hp
    intro a b ha hb hab e
    rcases h b hb a ha with h1 | h1
    · exact hab h1
    · exact h1 e
  · intro h s hs x hx
    by_cases e : x = s
    · exact .inl e
    · refine .inr fun he => e ?_
      exact inj_nodup f l h x hx s hs he
theorem lvI_nodup (ns : List ND) (k : Nat) : (lvI ns k).Nodup := by
  unfold lvI
  rw [List.nodup_iff_pairwise_ne, List.pairwise_map]
  refine List.Pairwise.imp ?_ (List.nodup_iff_pairwise_ne.mp (List.nodup_range.filter _))
  intro a b hab e
  exact hab (by omega)
theorem live_nat {ns : List ND} {x : Int} (h : x ∈ liveI ns) : ∃ i : Nat, x = i ∧ thN ns i = true ∧ i < ns.length := by
  unfold liveI lvI at h
  obtain ⟨i, hi, rfl⟩ := List.mem_map.mp h
  obtain ⟨h1, h2⟩ := List.mem_filter.mp hi
  exact ⟨i, rfl, h2, List.mem_range.mp h1⟩
/-- A node that is right but for its id. -/
def bodyB (ns : List ND) (slot : Nat) (links : Int) : Bool := shapeB (nAt ns slot) && listsB ns slot links
/-- The two ways to tell that the nodes are right. -/
theorem nodes_law (ns : List ND) (links : Int) : (liveI ns).all (fun x => nodeB ns x.toNat links) = ((liveI ns).all (fun x => bodyB ns x.toNat links) && decide ((liveI ns).map (idI ns)).Nodup) := by
  rw [← all_once (idI ns) (liveI ns) (lvI_nodup ns _), Bool.eq_iff_iff]
  simp only [Bool.and_eq_true, List.all_eq_true]
  have key : ∀ x ∈ liveI ns, (nodeB ns x.toNat links = true ↔ bodyB ns x.toNat links = true ∧ ∀ y ∈ liveI ns, (!((y != x) && (idI ns y == idI ns x))) = true) := by
    intro x hx
    obtain ⟨i, rfl, _, _⟩ := live_nat hx
    rw [Int.toNat_natCast]
    unfold nodeB bodyB onceB
    rw [Bool.and_eq_true, List.all_eq_true]
  constructor
  · intro h
    exact ⟨fun x hx => ((key x hx).mp (h x hx)).1, fun x hx => ((key x hx).mp (h x hx)).2⟩
  · intro h x hx
    exact (key x hx).mpr ⟨h.1 x hx, h.2 x hx⟩
end Go.Proofs.Ytbpcddimnbjoeaa
