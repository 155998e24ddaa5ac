/- Planes: neighbours: what is seen by the closure; the plain law. -/
import Derived.Test.YtbpcddimnbjoeaaPlD
namespace Go.Proofs.Ytbpcddimnbjoeaa
open Go.RowKit Go.Maps Go.ChangeMaps Go.MapKept
/-- 'out = append(out, u, v)'. -/
theorem wpList_push2 {P : Program} {ops : Array Oper} {rest : List Oper} {o : Oper} {a : Act} {Q : Exit → Act → World → Prop} (hgd : o.guard = none) (s x : Operand) (t : TypeId)
    (ho : o.op = .call { callee := .builtin .append, args := #[s, x], argTypes := #[t, t] })
    (base : Nat) (e : TypeId) (kd : IntKind) (bytes : Nat) (hb8 : bytes ≤ 8) (ht : P.underlying t = some (.slice e)) (hinfo : (P.info? e).map (fun i => (i.zero, i.size, i.bytes)) = some (some (.int kd 0), 1, bytes))
    (wr : World) (A : Option Addr) (n c : Nat) (zs : List Int) (u v : Int) (hs : a.eval s = .slice A n c) (hown : wr.ownsRow base e 1 (.slice A n c) n (zs.map (.int kd)))
    (hx : a.eval x = .slice (some ⟨wr.heap.size, 0, none⟩) 2 2) (hn : n ≤ 1099511627776) (hbase : base ≤ wr.heap.size)
    (h : ∀ g c' w', w'.ownsRow base e 1 (.slice (some ⟨g, 0, none⟩) (n + 2) c') (n + 2) ((zs ++ [u, v]).map (.int kd)) → Below base wr w' → wpList P ops Q rest (a.put o.dst (.slice (some ⟨g, 0, none⟩) (n + 2) c')) w') :
    wpList P ops Q (o :: rest) a (wr.alloc (.cells #[.int kd u, .int kd v] e)) := by
  obtain ⟨i, hi, hz, hz1, hz2⟩ := info_parts hinfo
  have hb2 : (n + 2) * bytes ≤ (n + 2) * 8 := Nat.mul_le_mul_left _ hb8
  refine wpList_append_lies (wr.alloc (.cells #[.int kd u, .int kd v] e)) hgd s x t ho base e i (.int kd 0) 1 bytes ht hi hz hz1 hz2 rfl (by omega) _ n (zs.map (.int kd)) hs (hown.alloc _) ⟨wr.heap.size, 0, none⟩ 2 2 [.int kd u, .int kd v] hx rfl
    (World.news_of_block (cs := #[.int kd u, .int kd v]) (t := e) (fr := (0, 0)) (heap_alloc_new wr _)) (by intro v hv; simp at hv; rcases hv with rfl | rfl <;> rfl) (by omega) (by unfold maxLen; omega) (by omega) (by simp; omega) _ rfl ?_
  intro g cap w' hown' hg hat hlt
  refine h g cap w' (by simpa using hown') ?_
  exact ((Below.refl base wr).alloc hbase _).grown hg (by simp; omega) fun k hk => (hown.lt k hk).1
def RetC (xs : List Int) (x : Int) (b : Bool) (bm m : Nat) (W : World) (e : Ending) (w' : World) : Prop := e = .returned (.bool b) ∧ (∃ D', MpAt w' 3 bm (m + 1) D' ∧ CmD .i64 D' (xs ++ [x])) ∧ Tch (fun k => k = bm) W w'
/-- What is left of the neighbours: those that are there, each once. -/
def nearQ (ns : List ND) (l : List Int) (i : Nat) : Bool := hasI (l.take i) (ig l i) || !thB ns (ig l i)
theorem kept_mem (ns : List ND) (l : List Int) (x : Int) : ∀ k, k ≤ l.length → (x ∈ keptI (nearQ ns l) l k ↔ x ∈ l.take k ∧ thB ns x = true)
  | 0, _ => by simp [keptI]
  | k + 1, hk => by
    have ih := kept_mem ns l x k (by omega)
    show x ∈ keptI (nearQ ns l) l k ++ (if nearQ ns l k then [] else [ig l k]) ↔ _
    rw [List.mem_append, ih, take_step (by omega), List.mem_append]
    unfold nearQ
    cases h1 : hasI (l.take k) (ig l k) with
    | true =>
      have hm := hasI_iff.1 h1
      simp only [Bool.true_or, if_true, List.not_mem_nil, or_false, List.mem_singleton]
      constructor
      · rintro ⟨a, b⟩; exact ⟨.inl a, b⟩
      · rintro ⟨a | a, b⟩
        · exact ⟨a, b⟩
        · subst a; exact ⟨hm, b⟩
    | false =>
      cases h2 : thB ns (ig l k) with
      | true =>
        simp only [Bool.false_or, Bool.not_true, Bool.false_eq_true, if_false, List.mem_singleton]
        constructor
        · rintro (⟨a, b⟩ | a)
          · exact ⟨.inl a, b⟩
          · subst a; exact ⟨.inr rfl, h2⟩
        · rintro ⟨a | a, b⟩
          · exact .inl ⟨a, b⟩
          · exact .inr a
      | false =>
        simp only [Bool.false_or, Bool.not_false, if_true, List.not_mem_nil, or_false, List.mem_singleton]
        constructor
        · rintro ⟨a, b⟩; exact ⟨.inl a, b⟩
        · rintro ⟨a | a, b⟩
          · exact ⟨a, b⟩
          · subst a; rw [h2] at b; cases b
theorem kept_with (ns : List ND) (l : List Int) {k : Nat} (hk : k < l.length) : keptI (nearQ ns l) l (k + 1) = if thB ns (ig l k) then withI (keptI (nearQ ns l) l k) (ig l k) else keptI (nearQ ns l) l k := by
  show keptI (nearQ ns l) l k ++ (if nearQ ns l k then [] else [ig l k]) = _
  have hm := kept_mem ns l (ig l k) k (by omega)
  cases h2 : thB ns (ig l k) with
  | false =>
    have : nearQ ns l k = true := by unfold nearQ; rw [h2]; simp
    rw [this]; simp
  | true =>
    rw [h2] at hm
    simp only [and_true] at hm
    have hq : nearQ ns l k = hasI (keptI (nearQ ns l) l k) (ig l k) := by
      have e : hasI (l.take k) (ig l k) = hasI (keptI (nearQ ns l) l k) (ig l k) := by
        rw [Bool.eq_iff_iff, hasI_iff, hasI_iff]
        exact hm.symm
      rw [← e]
      unfold nearQ
      rw [h2]; simp
    rw [hq]
    unfold withI
    simp only [if_true]
    cases hasI (keptI (nearQ ns l) l k) (ig l k) <;> simp
/-- A list of a node. -/
def lsAt (d : ND) (k : Nat) : IS := d.ls.getD k ⟨none, 0, 0, []⟩
def nearSrc (ns : List ND) (k : Nat) (level : Int) : List Int :=
  (if 0 < k ∧ 0 ≤ level ∧ level < (nAt ns k).ls.length then (lsAt (nAt ns k) level.toNat).xs else []) ++ if level = 0 then [(nAt ns k).next, (nAt ns k).prev] else []
def nearI (ns : List ND) (s level : Int) : List Int := if 0 ≤ s ∧ s < ns.length then keptI (nearQ ns (nearSrc ns s.toNat level)) (nearSrc ns s.toNat level) (nearSrc ns s.toNat level).length else []
end Go.Proofs.Ytbpcddimnbjoeaa
