/- What workers are seen to do: notes written. -/
import Derived.Test.YtoodifpkconfcaaRcF
namespace Go.Proofs.Ytoodifpkconfcaa
open Go.RowKit Go.Maps Go.ChangeMaps Go.MapKept
theorem KvF.same {V : Type} {enc : V → DataW Unit} {D : DataW Unit} {f : Int → Option V} (h : KvF enc D f) {k : Int} {v v' : V} (hf : f k = some v) (he : enc v' = enc v) : KvF enc D (upO f k v') := by
  refine ⟨h.tidy, fun x => ?_, fun x u hx z => ?_, fun u hu => ?_⟩
  · rw [h.has_]
    by_cases e : x = k
    · subst e; rw [upO_self, hf]; rfl
    · rw [upO_ne f e]
  · by_cases e : x = k
    · subst e
      rw [upO_self] at hx
      obtain rfl := Option.some.inj hx
      rw [he]
      exact h.at_ x v hf z
    · rw [upO_ne f e] at hx
      exact h.at_ x u hx z
  · have := h.ks u hu
    unfold upO
    split
    · rfl
    · exact this
section
variable {w w' : World} {F : Nat → Prop} {xb sy da : Nat} {ck : Nat → List Int} {fs : Int → Option (List Int)} {nt : Int → Option NtR} {sl : Value} {m N : Nat}
/-- One place's notes are written. -/
theorem RcS.upd {N' : Nat} {p : Int} {r r' : NtR} (S : RcS w F xb sy da ck fs nt sl m N) (hp : nt p = some r) (hb : r'.b = r.b) (hrb : r'.rb = r.rb) (hT : Tch (fun x => x = r.b ∨ x = r.rb) w w') (hN : N ≤ N')
    (hn : Blk w' r.b 59 (ntC r') ∧ ∃ D, w'.ownsMap Try.prog 3 (plainElem Try.prog 3) r.rb N' D ∧ KvF itEnc D r'.rs) (hnb : r'.ww < 65 ∧ ∀ v t, r'.rs v = some t → 0 ≤ v ∧ v < 65) :
    RcS w' F xb sy da ck fs (upO nt p r') sl m N' ∧ Tch F w w' := by
  have hF := S.inF.2.2.2.1 p r hp
  have hap := S.apn p r hp
  have hk : ∀ x, F x → x ≠ r.b → x ≠ r.rb → w'.heap[x]? = w.heap[x]? := fun x hx h1 h2 => hT.block x (S.ltF x hx) (fun q => by rcases q with q | q; exact h1 q; exact h2 q)
  refine ⟨⟨?_, ?_, ?_, fun k q hq => ?_, ?_, S.ckl, S.fsl, ⟨S.inF.1, S.inF.2.1, S.inF.2.2.1, fun k q hq => ?_, S.inF.2.2.2.2⟩, fun x hx => Nat.lt_of_lt_of_le (S.ltF x hx) hT.size, S.ap, fun k q hq => ?_, fun k q k' q' hq hq' hne => ?_, fun g hg => ⟨(S.apc g hg).1, (S.apc g hg).2.1, (S.apc g hg).2.2.1, fun k q hq => ?_⟩, fun k q hq => ?_⟩, hT.mono (fun k _ e => by rcases e with rfl | rfl; exact hF.1; exact hF.2)⟩
  · obtain ⟨C, c1, c2⟩ := S.x; exact ⟨C, (hk _ S.inF.1 hap.2.1.symm hap.2.2.2.2.1.symm).trans c1, c2⟩
  · obtain ⟨E, c1, c2⟩ := S.s; exact ⟨E, (ownsMap_atR c1 (hk _ S.inF.2.1 hap.2.2.1.symm hap.2.2.2.2.2.1.symm)).mono hN, c2⟩
  · obtain ⟨E, c1, c2⟩ := S.d; exact ⟨E, (ownsMap_atR c1 (hk _ S.inF.2.2.1 hap.2.2.2.1.symm hap.2.2.2.2.2.2.symm)).mono hN, c2.same hp (by unfold ntEnc; rw [hb])⟩
  · by_cases e : k = p
    · subst e
      rw [upO_self] at hq
      obtain rfl := Option.some.inj hq
      rw [hb, hrb]
      exact hn
    · rw [upO_ne nt e] at hq
      obtain ⟨c1, E, c2, c3⟩ := S.n k q hq
      have a := S.apm k q p r hq hp e
      have f := S.inF.2.2.2.1 k q hq
      exact ⟨(hk _ f.1 a.1 a.2.1).trans c1, E, (ownsMap_atR c2 (hk _ f.2 a.2.2.1 a.2.2.2)).mono hN, c3⟩
  · obtain ⟨xs, h, h1c⟩ := S.c
    exact ⟨xs, ownsRow_atR h (fun g hg => hk g (S.inF.2.2.2.2 g hg) ((S.apc g hg).2.2.2 p r hp).1 ((S.apc g hg).2.2.2 p r hp).2), h1c⟩
  · by_cases e : k = p
    · subst e
      rw [upO_self] at hq
      obtain rfl := Option.some.inj hq
      rw [hb, hrb]; exact hF
    · rw [upO_ne nt e] at hq
      exact S.inF.2.2.2.1 k q hq
  · by_cases e : k = p
    · subst e
      rw [upO_self] at hq
      obtain rfl := Option.some.inj hq
      rw [hb, hrb]; exact hap
    · rw [upO_ne nt e] at hq
      exact S.apn k q hq
  · by_cases e : k = p
    · subst e
      rw [upO_self] at hq
      obtain rfl := Option.some.inj hq
      rw [upO_ne nt (fun q => hne q.symm)] at hq'
      rw [hb, hrb]
      exact S.apm k r k' q' hp hq' hne
    · rw [upO_ne nt e] at hq
      by_cases e' : k' = p
      · subst e'
        rw [upO_self] at hq'
        obtain rfl := Option.some.inj hq'
        rw [hb, hrb]
        exact S.apm k q k' r hq hp hne
      · rw [upO_ne nt e'] at hq'
        exact S.apm k q k' q' hq hq' hne
  · by_cases e : k = p
    · subst e
      rw [upO_self] at hq
      obtain rfl := Option.some.inj hq
      rw [hb, hrb]
      exact (S.apc g hg).2.2.2 k r hp
    · rw [upO_ne nt e] at hq
      exact (S.apc g hg).2.2.2 k q hq
  · by_cases e : k = p
    · subst e
      rw [upO_self] at hq
      obtain rfl := Option.some.inj hq
      exact hnb
    · rw [upO_ne nt e] at hq
      exact S.nb k q hq
theorem upO_upO {V : Type} (f : Int → Option V) (k : Int) (v v' : V) : upO (upO f k v) k v' = upO f k v' := by
  funext x
  unfold upO
  split <;> rfl
/-- A read is noted. -/
theorem RcS.setRead {p : Int} {r : NtR} (S : RcS w F xb sy da ck fs nt sl m N) (hN : N < 1048576) (hp : nt p = some r) (u : Nat) (hu : u < 65) (t : Int) (ht : (Lit.int .i64 t).wf = true) :
    ∃ w2, (Instr.mapUpdate 57 (.map (some r.rb)) (.int .i64 (u : Int)) (.int .i64 t)).run Try.prog w = .ok () w2 ∧ RcS w2 F xb sy da ck fs (upO nt p ⟨r.b, r.rb, r.ww, r.wt, r.wr, upO r.rs (u : Int) t⟩) sl m (N + 1) ∧ Tch F w w2 ∧ Tch (fun x => x = r.rb) w w2 := by
  obtain ⟨h1, D, h2, h3⟩ := S.n p r hp
  have hwu : (Lit.int .i64 (u : Int)).wf = true := by simp [Lit.wf, IntKind.min, IntKind.max, IntKind.signed, IntKind.bits]; omega
  obtain ⟨w2, hrun, q3, hg⟩ := World.ownsMap.update h2 lawIR Try.underlying57 (show N < maxLen by unfold maxLen; omega) (keyOf_int_mk (P := Try.prog) Try.underlying3 hwu) (plainElem_int (H := Unit) Try.underlying3 ht)
  have hT : Tch (fun x => x = r.rb) w w2 := ⟨hg.os, hg.tape, hg.output, hg.size, fun k hk hn => hg.block k hk (fun e => hn (by injection e))⟩
  have hap := S.apn p r hp
  obtain ⟨a, b⟩ := S.upd (r' := ⟨r.b, r.rb, r.ww, r.wt, r.wr, upO r.rs (u : Int) t⟩) hp rfl rfl (hT.mono (S' := fun x => x = r.b ∨ x = r.rb) (fun k _ e => .inr e)) (Nat.le_succ N) ⟨(hT.block _ h1.lt hap.1).trans h1, _, q3, h3.put (u : Int) t⟩ ⟨(S.nb p r hp).1, fun v s hs => by
    show 0 ≤ v ∧ v < 65
    have hs : upO r.rs (u : Int) t v = some s := hs
    by_cases e : v = (u : Int)
    · omega
    · rw [upO_ne _ e] at hs
      exact (S.nb p r hp).2 v s hs⟩
  exact ⟨w2, hrun, a, b, hT⟩
/-- What was read is forgotten. -/
theorem RcS.clearReads {p : Int} {r : NtR} (S : RcS w F xb sy da ck fs nt sl m N) (hp : nt p = some r) :
    ∃ w2, (∀ ty, (Builtin.clear_ #[57] ty #[.map (some r.rb)]).run Try.prog w = .ok (.tuple #[]) w2) ∧ RcS w2 F xb sy da ck fs (upO nt p ⟨r.b, r.rb, r.ww, r.wt, r.wr, fun _ => none⟩) sl m N ∧ Tch F w w2 := by
  obtain ⟨h1, D, ⟨es, clock, hb, h2⟩, h3⟩ := S.n p r hp
  have hT : Tch (fun x => x = r.rb) w (setBlock w r.rb (.map #[] clock)) := ⟨rfl, rfl, rfl, by simp [setBlock], fun i _ hi => heap_setBlock_other hb _ hi⟩
  have hap := S.apn p r hp
  obtain ⟨a, b⟩ := S.upd (r' := ⟨r.b, r.rb, r.ww, r.wt, r.wr, fun _ => none⟩) hp rfl rfl (hT.mono (S' := fun x => x = r.b ∨ x = r.rb) (fun k _ e => .inr e)) (Nat.le_refl N) ⟨(hT.block _ h1.lt hap.1).trans h1, _, ⟨#[], clock, heap_setBlock_same hb _, ⟨by simp, stamped_empty clock, by simp⟩, Nat.zero_le _, rfl⟩, KvF.nil⟩ ⟨(S.nb p r hp).1, fun v s hs => by cases hs⟩
  exact ⟨_, fun ty => by simp [Builtin.clear_, run_underlying Try.underlying57, MapKept.run_getObj_map hb, MapKept.run_setObj_map _ hb, Result.andThen, setBlock], a, b⟩
/-- A write is noted. -/
theorem RcS.setWrite {p : Int} {r : NtR} (S : RcS w F xb sy da ck fs nt sl m N) (hp : nt p = some r) (u : Nat) (hu : u < 65) (t : Int) :
    ∃ w1, (Instr.storeAt 56 (.pointer (some ⟨r.b, 0, none⟩)) (.agg (noC u t))).run Try.prog w = .ok () w1 ∧ w1.cell? ⟨r.b, 2, none⟩ = some (.bool r.wr) ∧ w1.frozen? ⟨r.b, 2, none⟩ = false ∧ RcS (w1.setCell ⟨r.b, 2, none⟩ (.bool true)) F xb sy da ck fs (upO nt p ⟨r.b, r.rb, u, t, true, r.rs⟩) sl m N ∧ Tch F w (w1.setCell ⟨r.b, 2, none⟩ (.bool true)) := by
  obtain ⟨h1, D, h2, h3⟩ := S.n p r hp
  have hrun : (Instr.storeAt 56 (.pointer (some ⟨r.b, 0, none⟩)) (.agg (noC u t))).run Try.prog w = .ok () (w.setCells r.b 0 (noC u t).toList) := row_store_mid h1 0 (noC u t) (by simp [noC, ntC]) noteTN (by simp [noC, Value.oneCell'])
  have k2 : Blk (w.setCells r.b 0 (noC u t).toList) r.b 59 #[.int .i64 (u : Int), .int .i64 t, .bool r.wr, .map (some r.rb)] := (h1.set_ 0 (.int .i64 (u : Int))).set_ 1 (.int .i64 t)
  have k3 := k2.set_ 2 (.bool true)
  have hT1 : Tch (fun x => x = r.b) w (w.setCells r.b 0 (noC u t).toList) := Tch.setCells (S := fun x => x = r.b) rfl _ _ w (Tch.refl _ w)
  have hT := hT1.setCell (g := r.b) rfl 2 (.bool true)
  have hap := S.apn p r hp
  obtain ⟨a, b⟩ := S.upd (r' := ⟨r.b, r.rb, u, t, true, r.rs⟩) hp rfl rfl (hT.mono (S' := fun x => x = r.b ∨ x = r.rb) (fun k _ e => .inl e)) (Nat.le_refl N) ⟨k3, D, ownsMap_atR h2 (hT.block _ h2.lt (fun e => hap.1 e.symm)), h3⟩ ⟨hu, (S.nb p r hp).2⟩
  exact ⟨_, hrun, k2.cell 2, k2.frozen 2, a, b⟩
end
end Go.Proofs.Ytoodifpkconfcaa
