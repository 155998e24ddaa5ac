/- Reach: waves, the plain law, From and Steps. -/
import Derived.Test.YtckclflbcgblaaaPlO
import Derived.Test.YtckclflbcgblaaaRow
import Derived.Test.YtckclflbcgblaaaPmD
namespace Go.Proofs.Ytckclflbcgblaaa
open Go.RowKit Go.Maps Go.ChangeMaps Go.MapKept
theorem OwnI.apart {w w' : World} {B : Nat} {A : Option Addr} {n c : Nat} {xs : List Int} (h : OwnI w B A n c xs) (hb : ∀ g, B ≤ g → g < w.heap.size → w'.heap[g]? = w.heap[g]?) : OwnI w' B A n c xs := by
  rcases h.row with ⟨rfl, rfl, rfl⟩ | ⟨g, rfl, hB, hnc, hcm, cs, hcs, hln, htk⟩
  · have : xs = [] := List.eq_nil_of_length_eq_zero h.len
    subst this
    exact OwnI.nil_ _ _
  · have h1 := OwnI.of_row (hcs.at_ (hb g hB hcs.ib.lt)) hB hln hcm
    rwa [htk] at h1
/-- A wave, as it lies in memory: what was met, one by one (M), and the edge (E). -/
def wvC (A : Option Addr) (n c : Nat) (en tp level : Int) (bm : Nat) (eA : Option Addr) (em ec : Nat) : Array Value := #[.slice A n c, .int .i64 en, .int .i64 tp, .int .i64 level, .map (some bm), .slice eA em ec]
def metE (M E : List Int) (x : Int) : List Int := if hasI M x then E else E ++ [x]
/-- Append of one int: what it leaves be, block by block. -/
theorem wpList_pushG {P : Program} {ops : Array Oper} {rest : List Oper} {o : Oper} {a : Act} {Q : Exit → Act → World → Prop} (hgd : o.guard = none) (s x : Operand) (t : TypeId)
    (ho : o.op = .call { callee := .builtin .append, args := #[s, x], argTypes := #[t, t] })
    (base : Nat) (e : TypeId) (kd : IntKind) (bytes : Nat) (hb8 : bytes ≤ 8) (ht : P.underlying t = some (.slice e)) (hinfo : (P.info? e).map (fun i => (i.zero, i.size, i.bytes)) = some (some (.int kd 0), 1, bytes))
    (wr : World) (A : Option Addr) (n c : Nat) (zs : List Int) (u : Int) (hs : a.eval s = .slice A n c) (hown : wr.ownsRow base e 1 (.slice A n c) n (zs.map (.int kd)))
    (hx : a.eval x = .slice (some ⟨wr.heap.size, 0, none⟩) 1 1) (hn : n ≤ 1099511627776) (hbase : base ≤ wr.heap.size)
    (h : ∀ g c' w', w'.ownsRow base e 1 (.slice (some ⟨g, 0, none⟩) (n + 1) c') (n + 1) ((zs ++ [u]).map (.int kd)) → Tch (fun k => (Value.slice A n c).ownBlock = some k) wr w' → ((Value.slice A n c).ownBlock = some g ∨ wr.heap.size ≤ g) → wpList P ops Q rest (a.put o.dst (.slice (some ⟨g, 0, none⟩) (n + 1) c')) w') :
    wpList P ops Q (o :: rest) a (wr.alloc (.cells #[.int kd u] e)) := by
  obtain ⟨i, hi, hz, hz1, hz2⟩ := info_parts hinfo
  have hb2 : (n + 1) * bytes ≤ (n + 1) * 8 := Nat.mul_le_mul_left _ hb8
  refine wpList_append_lies (wr.alloc (.cells #[.int kd u] e)) hgd s x t ho base e i (.int kd 0) 1 bytes ht hi hz hz1 hz2 rfl (by omega) _ n (zs.map (.int kd)) hs (hown.alloc _) ⟨wr.heap.size, 0, none⟩ 1 1 [.int kd u] hx rfl
    (cell_one_new _ _ _) (by intro v hv; simp at hv; subst hv; rfl) (by omega) (by unfold maxLen; omega) (by omega) (by simp; omega) _ rfl ?_
  intro g cap w' hown' hg hat hlt
  have hs1 : (wr.alloc (.cells #[.int kd u] e)).heap.size = wr.heap.size + 1 := by simp only [World.alloc, Array.size_push]
  refine h g cap w' (by simpa using hown') ?_ (hat.imp id fun q => by omega)
  refine (Tch.alloc (S := fun k => (Value.slice A n c).ownBlock = some k) (Tch.refl _ wr) (.cells #[.int kd u] e)).trans (S' := fun k => (Value.slice A n c).ownBlock = some k) ⟨hg.os, hg.tape, hg.output, hg.size, fun k hk hn => hg.block k hk (fun q => hn q.symm)⟩ (fun k q => .inl q)
theorem re_fold_take {β : Type} (f : β → Int → β) (a : β) {l : List Int} {k : Nat} (hk : k < l.length) : (l.take (k + 1)).foldl f a = f ((l.take k).foldl f a) (ig l k) := by rw [take_step hk, List.foldl_append]; rfl
/-- What was met and the edge, behind one slot more. -/
def wvF (p : List Int × List Int) (x : Int) : List Int × List Int := (p.1 ++ [x], metE p.1 p.2 x)
theorem wvF_fst : ∀ (l : List Int) (p : List Int × List Int), (l.foldl wvF p).1 = p.1 ++ l
  | [], p => by simp
  | x :: l, p => by rw [List.foldl_cons, wvF_fst l]; simp [wvF]
theorem metE_len (M E : List Int) (x : Int) : (metE M E x).length ≤ E.length + 1 := by unfold metE; split <;> simp
theorem wvF_snd : ∀ (l : List Int) (p : List Int × List Int), (l.foldl wvF p).2.length ≤ p.2.length + l.length
  | [], p => by simp
  | x :: l, p => by
    rw [List.foldl_cons]
    have h1 := wvF_snd l (wvF p x)
    have h2 : (wvF p x).2.length ≤ p.2.length + 1 := metE_len _ _ _
    rw [List.length_cons]; omega
def sprF (ns : List ND) (level : Int) (p : List Int × List Int) (x : Int) : List Int × List Int := (nearI ns x level).foldl wvF p
theorem spr_mono (ns : List ND) (level : Int) : ∀ (l : List Int) (p : List Int × List Int), p.1.length ≤ (l.foldl (sprF ns level) p).1.length
  | [], _ => Nat.le_refl _
  | x :: l, p => by
    rw [List.foldl_cons]
    refine Nat.le_trans ?_ (spr_mono ns level l _)
    unfold sprF; rw [wvF_fst, List.length_append]; omega
theorem spr_le (ns : List ND) (level : Int) : ∀ (l : List Int) (p : List Int × List Int), p.2.length ≤ p.1.length → (l.foldl (sprF ns level) p).2.length ≤ (l.foldl (sprF ns level) p).1.length
  | [], _, h => h
  | x :: l, p, h => by
    rw [List.foldl_cons]
    refine spr_le ns level l _ ?_
    have h1 := wvF_snd (nearI ns x level) p
    unfold sprF; rw [wvF_fst, List.length_append]; omega
theorem near_there {ns : List ND} {s level y : Int} (h : y ∈ nearI ns s level) : thB ns y = true := by
  unfold nearI at h
  split at h
  · exact ((kept_mem ns _ y _ (Nat.le_refl _)).1 h).2
  · cases h
/-- The document's step. -/
def stepI (ns : List ND) (level : Int) (l : List Int) : List Int := l.foldl (fun out x => (nearI ns x level).foldl withI out) l
def bI (ns : List ND) (level : Int) (xs : List Int) : Nat → List Int
  | 0 => xs
  | k + 1 => stepI ns level (bI ns level xs k)
theorem mem_withI {l : List Int} {v x : Int} : x ∈ withI l v ↔ x ∈ l ∨ x = v := by
  unfold withI
  split
  · rename_i h
    rw [hasI_iff] at h
    exact ⟨.inl, fun q => q.elim id fun e => e ▸ h⟩
  · simp
theorem mem_foldWith : ∀ (L l : List Int) (x : Int), x ∈ L.foldl withI l ↔ x ∈ l ∨ x ∈ L
  | [], l, x => by simp
  | y :: L, l, x => by rw [List.foldl_cons, mem_foldWith L, mem_withI]; simp [or_assoc]
theorem len_withI (l : List Int) (v : Int) : l.length ≤ (withI l v).length ∧ ((withI l v).length = l.length → v ∈ l) ∧ (v ∈ l → withI l v = l) := by
  unfold withI
  cases h : hasI l v with
  | true => exact ⟨Nat.le_refl _, fun _ => hasI_iff.1 h, fun _ => rfl⟩
  | false =>
    refine ⟨by simp, fun q => ?_, fun q => ?_⟩
    · simp at q
    · rw [hasI_iff.2 q] at h; cases h
theorem len_foldWith : ∀ (L l : List Int), l.length ≤ (L.foldl withI l).length ∧ ((L.foldl withI l).length = l.length → ∀ x ∈ L, x ∈ l) ∧ ((∀ x ∈ L, x ∈ l) → L.foldl withI l = l)
  | [], l => ⟨Nat.le_refl _, fun _ => (by simp), fun _ => rfl⟩
  | y :: L, l => by
    obtain ⟨a1, a2, a3⟩ := len_withI l y
    obtain ⟨b1, b2, b3⟩ := len_foldWith L (withI l y)
    rw [List.foldl_cons]
    refine ⟨Nat.le_trans a1 b1, fun q x hx => ?_, fun q => ?_⟩
    · have hy : y ∈ l := a2 (by omega)
      rw [a3 hy] at b2 q
      rcases List.mem_cons.1 hx with rfl | hx
      · exact hy
      · exact b2 q x hx
    · rw [a3 (q y List.mem_cons_self)] at b3 ⊢
      exact b3 fun x hx => q x (List.mem_cons_of_mem _ hx)
/-- All that a list's members are next to. -/
def nextI (ns : List ND) (level : Int) (l : List Int) : List Int := (l.map fun x => nearI ns x level).flatten
theorem mem_nextI {ns : List ND} {level : Int} {l : List Int} {y : Int} : y ∈ nextI ns level l ↔ ∃ x ∈ l, y ∈ nearI ns x level := by
  unfold nextI
  rw [List.mem_flatten]
  exact ⟨fun ⟨_, h1, h2⟩ => by obtain ⟨x, hx, rfl⟩ := List.mem_map.1 h1; exact ⟨x, hx, h2⟩, fun ⟨x, hx, h2⟩ => ⟨_, List.mem_map.2 ⟨x, hx, rfl⟩, h2⟩⟩
theorem fold_flat {α β : Type} (f : β → α → β) (g : Int → List α) : ∀ (l : List Int) (b : β), l.foldl (fun out x => (g x).foldl f out) b = ((l.map g).flatten).foldl f b
  | [], b => rfl
  | x :: l, b => by rw [List.foldl_cons, fold_flat f g l, List.map_cons, List.flatten_cons, List.foldl_append]
theorem stepI_eq (ns : List ND) (level : Int) (l : List Int) : stepI ns level l = (nextI ns level l).foldl withI l := fold_flat withI (fun x => nearI ns x level) l l
theorem spr_eq (ns : List ND) (level : Int) (l : List Int) (p : List Int × List Int) : l.foldl (sprF ns level) p = (nextI ns level l).foldl wvF p := fold_flat wvF (fun x => nearI ns x level) l p
theorem mem_stepI {ns : List ND} {level : Int} {l : List Int} {y : Int} : y ∈ stepI ns level l ↔ y ∈ l ∨ ∃ x ∈ l, y ∈ nearI ns x level := by rw [stepI_eq, mem_foldWith, mem_nextI]
theorem stepI_len (ns : List ND) (level : Int) (l : List Int) : l.length ≤ (stepI ns level l).length := by rw [stepI_eq]; exact (len_foldWith _ _).1
theorem stepI_same {ns : List ND} {level : Int} {l : List Int} (h : (stepI ns level l).length = l.length) : stepI ns level l = l := by
  rw [stepI_eq] at h ⊢
  exact (len_foldWith _ _).2.2 ((len_foldWith _ _).2.1 h)
theorem stepI_shut {ns : List ND} {level : Int} {l : List Int} : stepI ns level l = l ↔ ∀ y ∈ nextI ns level l, y ∈ l := by
  rw [stepI_eq]
  exact ⟨fun h => (len_foldWith _ _).2.1 (by rw [h]), (len_foldWith _ _).2.2⟩
theorem mem_metE {M E : List Int} {x y : Int} : y ∈ metE M E x ↔ y ∈ E ∨ (y = x ∧ x ∉ M) := by
  unfold metE
  split
  · rename_i h
    rw [hasI_iff] at h
    exact ⟨.inl, fun q => q.elim id fun e => absurd h e.2⟩
  · rename_i h
    rw [hasI_iff] at h
    simp only [List.mem_append, List.mem_singleton]
    exact ⟨fun q => q.imp id fun e => ⟨e, h⟩, fun q => q.imp id fun e => e.1⟩
theorem wvF_sub {p : List Int × List Int} (hE : ∀ x ∈ p.2, x ∈ p.1) (x : Int) : ∀ y ∈ (wvF p x).2, y ∈ (wvF p x).1 := by
  intro y hy
  rcases mem_metE.1 hy with q | ⟨rfl, _⟩
  · exact List.mem_append_left _ (hE y q)
  · simp [wvF]
theorem mem_wvF : ∀ (L : List Int) (p : List Int × List Int), (∀ x ∈ p.2, x ∈ p.1) → ∀ y, y ∈ (L.foldl wvF p).2 ↔ y ∈ p.2 ∨ (y ∈ L ∧ y ∉ p.1)
  | [], p, _, y => by simp
  | x :: L, p, hE, y => by
    rw [List.foldl_cons, mem_wvF L _ (wvF_sub hE x)]
    have h1 : y ∈ (wvF p x).2 ↔ y ∈ p.2 ∨ (y = x ∧ x ∉ p.1) := mem_metE
    have h2 : y ∈ (wvF p x).1 ↔ y ∈ p.1 ∨ y = x := by simp [wvF]
    rw [h1, h2, List.mem_cons]
    constructor
    · rintro ((q | ⟨rfl, q⟩) | ⟨q1, q2⟩)
      · exact .inl q
      · exact .inr ⟨.inl rfl, q⟩
      · exact .inr ⟨.inr q1, fun q => q2 (.inl q)⟩
    · rintro (q | ⟨rfl | q1, q2⟩)
      · exact .inl (.inl q)
      · exact .inl (.inr ⟨rfl, q2⟩)
      · by_cases e : y = x
        · subst e; exact .inl (.inr ⟨rfl, q2⟩)
        · exact .inr ⟨q1, fun q => q.elim q2 e⟩
theorem sub_wvF : ∀ (L : List Int) (p : List Int × List Int), (∀ x ∈ p.2, x ∈ p.1) → ∀ y ∈ (L.foldl wvF p).2, y ∈ (L.foldl wvF p).1
  | [], _, h => h
  | x :: L, p, h => by rw [List.foldl_cons]; exact sub_wvF L _ (wvF_sub h x)
theorem nodup_wvF : ∀ (L : List Int) (p : List Int × List Int), (∀ x ∈ p.2, x ∈ p.1) → p.2.Nodup → (L.foldl wvF p).2.Nodup
  | [], _, _, h => h
  | x :: L, p, hE, h => by
    rw [List.foldl_cons]
    refine nodup_wvF L _ (wvF_sub hE x) ?_
    show (metE p.1 p.2 x).Nodup
    unfold metE
    split
    · exact h
    · rename_i q
      rw [hasI_iff] at q
      refine List.nodup_append.2 ⟨h, by simp, fun a ha b hb e => ?_⟩
      simp only [List.mem_singleton] at hb
      subst hb; subst e
      exact q (hE _ ha)
/-- The program's rounds. -/
def rI (ns : List ND) (level : Int) (xs : List Int) : Nat → List Int × List Int
  | 0 => xs.foldl wvF ([], [])
  | k + 1 => (rI ns level xs k).2.foldl (sprF ns level) ((rI ns level xs k).1, [])
structure RInv (ns : List ND) (level : Int) (b : List Int) (p : List Int × List Int) : Prop where
  mem : ∀ y, y ∈ p.1 ↔ y ∈ b
  sub : ∀ y ∈ p.2, y ∈ p.1
  nd : p.2.Nodup
  in_ : ∀ x ∈ p.1, x ∉ p.2 → ∀ y ∈ nearI ns x level, y ∈ p.1
theorem rI_inv (ns : List ND) (level : Int) (xs : List Int) : ∀ k, RInv ns level (bI ns level xs k) (rI ns level xs k)
  | 0 => by
    have h1 : (xs.foldl wvF ([], [])).1 = xs := by rw [wvF_fst]; rfl
    refine ⟨fun y => by show y ∈ (xs.foldl wvF ([], [])).1 ↔ _; rw [h1]; exact Iff.rfl, sub_wvF xs _ (fun _ h => by cases h), nodup_wvF xs _ (fun _ h => by cases h) List.nodup_nil, fun x hx hn => ?_⟩
    refine absurd ?_ hn
    rw [show (rI ns level xs 0) = xs.foldl wvF ([], []) from rfl, h1] at hx
    exact (mem_wvF xs ([], []) (fun _ h => by cases h) x).2 (.inr ⟨hx, by simp⟩)
  | k + 1 => by
    have ih := rI_inv ns level xs k
    have he : rI ns level xs (k + 1) = (nextI ns level (rI ns level xs k).2).foldl wvF ((rI ns level xs k).1, []) := spr_eq _ _ _ _
    generalize rI ns level xs k = p at ih he
    have h1 : (rI ns level xs (k + 1)).1 = p.1 ++ nextI ns level p.2 := by rw [he, wvF_fst]
    have h2 : ∀ y, y ∈ (rI ns level xs (k + 1)).2 ↔ y ∈ nextI ns level p.2 ∧ y ∉ p.1 := fun y => by
      rw [he, mem_wvF _ _ (fun _ h => by cases h)]; simp
    refine ⟨fun y => ?_, by rw [he]; exact sub_wvF _ _ (fun _ h => by cases h), by rw [he]; exact nodup_wvF _ _ (fun _ h => by cases h) List.nodup_nil, fun x hx hn y hy => ?_⟩
    · rw [h1, List.mem_append, show bI ns level xs (k + 1) = stepI ns level (bI ns level xs k) from rfl, mem_stepI, ← ih.mem, mem_nextI]
      constructor
      · rintro (q | ⟨x, q1, q2⟩)
        · exact .inl q
        · exact .inr ⟨x, (ih.mem x).1 (ih.sub x q1), q2⟩
      · rintro (q | ⟨x, q1, q2⟩)
        · exact .inl q
        · have q3 := (ih.mem x).2 q1
          by_cases q4 : x ∈ p.2
          · exact .inr ⟨x, q4, q2⟩
          · exact .inl (ih.in_ x q3 q4 y q2)
    · rw [h1] at hx ⊢
      rw [h2] at hn
      have hxp : x ∈ p.1 := by
        rcases List.mem_append.1 hx with q | q
        · exact q
        · exact Classical.byContradiction fun q2 => hn ⟨q, q2⟩
      by_cases q4 : x ∈ p.2
      · exact List.mem_append_right _ (mem_nextI.2 ⟨x, q4, hy⟩)
      · exact List.mem_append_left _ (ih.in_ x hxp q4 y hy)
/-- A round adds nothing: as the program and as the document see it. -/
theorem rI_shut {ns : List ND} {level : Int} {xs : List Int} {k : Nat} : (rI ns level xs (k + 1)).2 = [] ↔ stepI ns level (bI ns level xs k) = bI ns level xs k := by
  have ih := rI_inv ns level xs k
  have he : rI ns level xs (k + 1) = (nextI ns level (rI ns level xs k).2).foldl wvF ((rI ns level xs k).1, []) := spr_eq _ _ _ _
  rw [stepI_shut, he]
  generalize rI ns level xs k = p at ih he
  have h2 : ∀ y, y ∈ ((nextI ns level p.2).foldl wvF (p.1, [])).2 ↔ y ∈ nextI ns level p.2 ∧ y ∉ p.1 := fun y => by rw [mem_wvF _ _ (fun _ h => by cases h)]; simp
  constructor
  · intro q y hy
    obtain ⟨x, q1, q2⟩ := mem_nextI.1 hy
    rw [← ih.mem] at q1 ⊢
    by_cases q4 : x ∈ p.2
    · refine Classical.byContradiction fun q5 => ?_
      have := (h2 y).2 ⟨mem_nextI.2 ⟨x, q4, q2⟩, q5⟩
      rw [q] at this; cases this
    · exact ih.in_ x q1 q4 y q2
  · intro q
    refine List.eq_nil_iff_forall_not_mem.2 fun y hy => ?_
    obtain ⟨q1, q2⟩ := (h2 y).1 hy
    obtain ⟨x, q3, q4⟩ := mem_nextI.1 q1
    exact q2 ((ih.mem y).2 (q y (mem_nextI.2 ⟨x, (ih.mem x).1 (ih.sub x q3), q4⟩)))
/-- How many slots are not met. -/
def unI (ns : List ND) (b : List Int) : Nat := ((liveI ns).filter fun y => !hasI b y).length
theorem mem_liveI {ns : List ND} {y : Int} : y ∈ liveI ns ↔ thB ns y = true := by
  unfold liveI lvI
  rw [List.mem_map, thB_nat_iff]
  constructor
  · rintro ⟨k, hk, rfl⟩
    exact ⟨k, rfl, (List.mem_filter.1 hk).2⟩
  · rintro ⟨k, rfl, hk⟩
    exact ⟨k, List.mem_filter.2 ⟨List.mem_range.2 (thN_iff.1 hk).2.1, hk⟩, rfl⟩
theorem nodup_liveI (ns : List ND) : (liveI ns).Nodup := by
  unfold liveI lvI
  refine List.Pairwise.map _ (fun a b (h : a ≠ b) => ?_) (List.nodup_range.filter _)
  omega
theorem liveI_le (ns : List ND) : (liveI ns).length ≤ ns.length := lvI_le ns _
theorem unI_le (ns : List ND) (b : List Int) : unI ns b ≤ ns.length := Nat.le_trans (List.length_filter_le _ _) (liveI_le ns)
theorem hasI_congr {a b : List Int} (h : ∀ y, y ∈ a ↔ y ∈ b) (y : Int) : hasI a y = hasI b y := by
  rw [Bool.eq_iff_iff, hasI_iff, hasI_iff]; exact h y
theorem unI_congr {ns : List ND} {a b : List Int} (h : ∀ y, y ∈ a ↔ y ∈ b) : unI ns a = unI ns b := by
  unfold unI; simp only [hasI_congr h]
theorem len_sub : ∀ (a b : List Int), a.Nodup → (∀ x ∈ a, x ∈ b) → a.length ≤ b.length
  | [], b, _, _ => Nat.zero_le _
  | x :: a, b, hn, hs => by
    have hx := hs x List.mem_cons_self
    have h1 := List.nodup_cons.1 hn
    have h2 := len_sub a (b.erase x) h1.2 fun y hy => (List.mem_erase_of_ne (by rintro rfl; exact h1.1 hy)).2 (hs y (List.mem_cons_of_mem _ hy))
    rw [List.length_erase_of_mem hx] at h2
    have : 0 < b.length := List.length_pos_of_mem hx
    rw [List.length_cons]; omega
theorem unI_more {ns : List ND} {b b' E : List Int} (hb : ∀ y ∈ b, y ∈ b') (hn : E.Nodup) (hE : ∀ y ∈ E, thB ns y = true ∧ y ∈ b' ∧ y ∉ b) : unI ns b' + E.length ≤ unI ns b := by
  unfold unI
  rw [Nat.add_comm, ← List.length_append]
  refine len_sub _ _ (List.nodup_append.2 ⟨hn, (nodup_liveI ns).filter _, fun a ha c hc e => ?_⟩) fun y hy => ?_
  · subst e
    have := (List.mem_filter.1 hc).2
    rw [hasI_iff.2 (hE a ha).2.1] at this; cases this
  · rcases List.mem_append.1 hy with q | q
    · obtain ⟨q1, q2, q3⟩ := hE y q
      refine List.mem_filter.2 ⟨mem_liveI.2 q1, ?_⟩
      cases e : hasI b y with
      | true => exact absurd (hasI_iff.1 e) q3
      | false => rfl
    · obtain ⟨q1, q2⟩ := List.mem_filter.1 q
      refine List.mem_filter.2 ⟨q1, ?_⟩
      cases e : hasI b y with
      | true => rw [hasI_iff.2 (hb y (hasI_iff.1 e))] at q2; cases q2
      | false => rfl
theorem rI_edge (ns : List ND) (level : Int) (xs : List Int) (k : Nat) : unI ns (bI ns level xs (k + 1)) + (rI ns level xs (k + 1)).2.length ≤ unI ns (bI ns level xs k) := by
  have ih := rI_inv ns level xs k
  have ih1 := rI_inv ns level xs (k + 1)
  have he : rI ns level xs (k + 1) = (nextI ns level (rI ns level xs k).2).foldl wvF ((rI ns level xs k).1, []) := spr_eq _ _ _ _
  refine unI_more (fun y hy => mem_stepI.2 (.inl hy)) ih1.nd fun y hy => ?_
  have h2 := hy
  rw [he, mem_wvF _ _ (fun _ h => by cases h)] at h2
  rcases h2 with h2 | ⟨h2, h3⟩
  · cases h2
  · obtain ⟨x, _, q⟩ := mem_nextI.1 h2
    exact ⟨near_there q, (ih1.mem y).1 (ih1.sub y hy), fun q2 => h3 ((ih.mem y).2 q2)⟩
theorem rI_less {ns : List ND} {level : Int} {xs : List Int} {k : Nat} (h : stepI ns level (bI ns level xs k) ≠ bI ns level xs k) : unI ns (bI ns level xs (k + 1)) < unI ns (bI ns level xs k) := by
  have h1 := rI_edge ns level xs k
  have h2 : 0 < (rI ns level xs (k + 1)).2.length := List.length_pos_iff.2 fun e => h (rI_shut.1 e)
  omega
theorem next_le {ns : List ND} {level : Int} {d : Nat} (hd : ∀ s, (nearI ns s level).length ≤ d) : ∀ (l : List Int), (nextI ns level l).length ≤ d * l.length
  | [] => by simp [nextI]
  | x :: l => by
    have h1 := next_le hd l
    have h2 := hd x
    unfold nextI at h1 ⊢
    rw [List.map_cons, List.flatten_cons, List.length_append, List.length_cons, Nat.mul_succ]
    omega
theorem rI_bound {ns : List ND} {level : Int} {d : Nat} (hd : ∀ s, (nearI ns s level).length ≤ d) (xs : List Int) : ∀ k, (rI ns level xs k).1.length + d * ((rI ns level xs k).2.length + unI ns (bI ns level xs k)) ≤ xs.length + d * (xs.length + ns.length)
  | 0 => by
    have h1 : (xs.foldl wvF ([], [])).1 = xs := by rw [wvF_fst]; rfl
    have h2 := wvF_snd xs ([], [])
    have h3 := unI_le ns xs
    show (xs.foldl wvF ([], [])).1.length + d * ((xs.foldl wvF ([], [])).2.length + unI ns xs) ≤ _
    rw [h1]
    refine Nat.add_le_add_left (Nat.mul_le_mul_left _ ?_) _
    simp at h2; omega
  | k + 1 => by
    have ih := rI_bound hd xs k
    have h1 := rI_edge ns level xs k
    have he : rI ns level xs (k + 1) = (nextI ns level (rI ns level xs k).2).foldl wvF ((rI ns level xs k).1, []) := spr_eq _ _ _ _
    have h2 := next_le hd (rI ns level xs k).2
    have h3 : (rI ns level xs (k + 1)).1.length = (rI ns level xs k).1.length + (nextI ns level (rI ns level xs k).2).length := by rw [he, wvF_fst, List.length_append]
    have h4 : d * ((rI ns level xs (k + 1)).2.length + unI ns (bI ns level xs (k + 1))) ≤ d * unI ns (bI ns level xs k) := Nat.mul_le_mul_left _ (by omega)
    rw [Nat.mul_add] at ih
    omega
theorem rI_le (ns : List ND) (level : Int) (xs : List Int) : ∀ k, (rI ns level xs k).2.length ≤ (rI ns level xs k).1.length
  | k => len_sub _ _ (rI_inv ns level xs k).nd (rI_inv ns level xs k).sub
theorem bI_stay {ns : List ND} {level : Int} {xs : List Int} {k : Nat} (h : stepI ns level (bI ns level xs k) = bI ns level xs k) : ∀ j, bI ns level xs (k + j) = bI ns level xs k
  | 0 => rfl
  | j + 1 => by
    show stepI ns level (bI ns level xs (k + j)) = _
    rw [bI_stay h j, h]
theorem bI_shuts (ns : List ND) (level : Int) (xs : List Int) : ∀ m k, unI ns (bI ns level xs k) ≤ m → ∃ j, j ≤ m ∧ stepI ns level (bI ns level xs (k + j)) = bI ns level xs (k + j)
  | 0, k, h => ⟨0, Nat.le_refl _, Classical.byContradiction fun q => by have := rI_less (k := k) q; omega⟩
  | m + 1, k, h => by
    by_cases q : stepI ns level (bI ns level xs k) = bI ns level xs k
    · exact ⟨0, Nat.zero_le _, q⟩
    · have h1 := rI_less q
      obtain ⟨j, hj, h2⟩ := bI_shuts ns level xs m (k + 1) (by omega)
      exact ⟨j + 1, by omega, by rw [show k + (j + 1) = k + 1 + j from by omega]; exact h2⟩
/-- All that is reached. -/
def clI (ns : List ND) (level : Int) (xs : List Int) : List Int := bI ns level xs ns.length
theorem clI_shut (ns : List ND) (level : Int) (xs : List Int) : stepI ns level (clI ns level xs) = clI ns level xs := by
  obtain ⟨j, hj, h⟩ := bI_shuts ns level xs ns.length 0 (unI_le _ _)
  rw [Nat.zero_add] at h
  have h1 := bI_stay h (ns.length - j)
  rw [show j + (ns.length - j) = ns.length from by omega] at h1
  unfold clI
  rw [h1, h]
theorem clI_of {ns : List ND} {level : Int} {xs : List Int} {k : Nat} (h : stepI ns level (bI ns level xs k) = bI ns level xs k) : bI ns level xs k = clI ns level xs := by
  rcases Nat.le_total k ns.length with q | q
  · have h1 := bI_stay h (ns.length - k)
    rw [show k + (ns.length - k) = ns.length from by omega] at h1
    exact h1.symm
  · have h1 := bI_stay (clI_shut ns level xs) (k - ns.length)
    rw [show ns.length + (k - ns.length) = k from by omega] at h1
    exact h1
theorem bI_mono {ns : List ND} {level : Int} {xs : List Int} {y : Int} {k : Nat} (h : y ∈ bI ns level xs k) : ∀ j, y ∈ bI ns level xs (k + j)
  | 0 => h
  | j + 1 => mem_stepI.2 (.inl (bI_mono h j))
theorem bI_cl {ns : List ND} {level : Int} {xs : List Int} {y : Int} {k : Nat} (h : y ∈ bI ns level xs k) : y ∈ clI ns level xs := by
  rcases Nat.le_total k ns.length with q | q
  · have h1 := bI_mono h (ns.length - k)
    rw [show k + (ns.length - k) = ns.length from by omega] at h1
    exact h1
  · have h1 := bI_stay (clI_shut ns level xs) (k - ns.length)
    rw [show ns.length + (k - ns.length) = k from by omega] at h1
    rw [h1] at h
    exact h
def fromI (ns : List ND) (level : Int) (xs : List Int) : List Int := (liveI ns).filter (hasI (clI ns level xs))
def wholeI (ns : List ND) : Bool := decide ((fromI ns 0 [0]).length = (liveI ns).length)
/-- How many steps, and whether there are any. -/
def StR (ns : List ND) (level a b : Int) (r : Int) (is : Bool) : Prop :=
  (is = true ∧ thB ns b = true ∧ ∃ k : Nat, r = k ∧ b ∈ bI ns level [a] k ∧ ∀ j, j < k → b ∉ bI ns level [a] j) ∨ (is = false ∧ r = 0 ∧ (thB ns b = false ∨ b ∉ clI ns level [a]))
theorem StR.uniq {ns : List ND} {level a b r r' : Int} {is is' : Bool} (h : StR ns level a b r is) (h' : StR ns level a b r' is') : r = r' ∧ is = is' := by
  rcases h with ⟨rfl, h1, k, rfl, h2, h3⟩ | ⟨rfl, rfl, h1⟩ <;> rcases h' with ⟨rfl, g1, k', rfl, g2, g3⟩ | ⟨rfl, rfl, g1⟩
  · refine ⟨?_, rfl⟩
    rcases Nat.lt_trichotomy k k' with q | q | q
    · exact absurd h2 (g3 k q)
    · rw [q]
    · exact absurd g2 (h3 k' q)
  · rcases g1 with g1 | g1
    · rw [h1] at g1; cases g1
    · exact absurd (bI_cl h2) g1
  · rcases h1 with h1 | h1
    · rw [g1] at h1; cases h1
    · exact absurd (bI_cl g2) h1
  · exact ⟨rfl, rfl⟩
def grpF (ns : List ND) (level : Int) (p : List (List Int) × List Int) (s : Int) : List (List Int) × List Int :=
  if decide ((nAt ns s.toNat).level < level) || hasI p.2 s then p else (p.1 ++ [fromI ns level [s]], p.2 ++ fromI ns level [s])
def grpI (ns : List ND) (level : Int) : List (List Int) := ((liveI ns).foldl (grpF ns level) ([], [])).1
theorem filt_take {q : Int → Bool} {l : List Int} {j : Nat} (hj : j < l.length) : (l.take (j + 1)).filter q = (l.take j).filter q ++ if q (ig l j) then [ig l j] else [] := by
  rw [take_step hj, List.filter_append]
  congr 1
  cases h : q (ig l j) <;> simp [h]
theorem wf_live {w : World} {B n c : Nat} {A : Option Addr} {ns : List ND} (hg : PgAt w B A n c ns) {x : Int} (hx : x ∈ liveI ns) : (Lit.int .i64 x).wf = true := by
  obtain ⟨k, rfl, hk⟩ := thB_nat_iff.1 (mem_liveI.1 hx)
  have h1 := (thN_iff.1 hk).2.1
  have h2 := hg.len
  have h3 := hg.2.1
  exact wf_i64 (by omega) (by omega)
theorem Tch_pl {w w' : World} {B b n c : Nat} {wb bm : Nat} {A : Option Addr} {ns : List ND} (hg : PgAt w B A n c ns) (ht : Tch (fun k => k = wb ∨ k = bm) w w') (hB : B ≤ w.heap.size) (h1 : B ≤ wb) (h2 : B ≤ bm) (hb : B ≤ b) : PgAt w' b A n c ns :=
  (hg.below (ht.below hB (by rintro k (rfl | rfl) <;> omega))).more hb
theorem rd_one (w : World) (a : Int) : Rd (w.alloc (.cells #[.int .i64 a] 3)) (w.alloc (.cells #[.int .i64 a] 3)).heap.size (some ⟨w.heap.size, 0, none⟩) 1 ([a].map (.int .i64)) :=
  ⟨rfl, fun _ => ⟨w.heap.size, 0, rfl, (Blk.new w 3 #[.int .i64 a]).lt, fun j u hu => by
    have h := cell_one_new w (.int .i64 a) 3 j u hu
    rwa [Addr.add_lit] at h⟩⟩
def RetSt (ns : List ND) (level a b : Int) (w : World) (e : Ending) (w' : World) : Prop := ∃ r is, e = .returned (.tuple #[.int .i64 r, .bool is]) ∧ StR ns level a b r is ∧ Below w.heap.size w w'
theorem wf_there {w : World} {B n c : Nat} {A : Option Addr} {ns : List ND} (hg : PgAt w B A n c ns) {x : Int} (hx : thB ns x = true) : (Lit.int .i64 x).wf = true := wf_live hg (mem_liveI.2 hx)
end Go.Proofs.Ytckclflbcgblaaa
