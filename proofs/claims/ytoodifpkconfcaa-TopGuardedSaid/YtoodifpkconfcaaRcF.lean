/- What workers are seen to do: the notes of a place of data. -/
import Derived.Test.YtoodifpkconfcaaRcE
namespace Go.Proofs.Ytoodifpkconfcaa
open Go.RowKit Go.Maps Go.ChangeMaps Go.MapKept
theorem zeroPN : ∀ w, (zeroValue 53).run Try.prog w = .ok (.pointer none) w := by
  have h : (Try.prog.info? 53).map (fun i => (i.zero, i.size)) = some (some (.pointer none), 1) := by kernel_rfl
  exact (zero_of_info h).1
def nt0 (b rb : Nat) : NtR := ⟨b, rb, 0, 0, false, fun _ => none⟩
section
variable {w w' : World} {F : Nat → Prop} {xb sy da : Nat} {ck : Nat → List Int} {fs : Int → Option (List Int)} {nt : Int → Option NtR} {sl : Value} {m N : Nat}
theorem RcS.look (S : RcS w F xb sy da ck fs nt sl m N) (p : Int) (hp : (Lit.int .i64 p).wf = true) :
    (Instr.lookup 43 (.map (some da)) (.int .i64 p) false).run Try.prog w = .ok (.pointer (match nt p with | some r => some ⟨r.b, 0, none⟩ | none => none)) w := by
  obtain ⟨D, h1, h2⟩ := S.d
  obtain ⟨v, ps, hrun, hv⟩ := World.ownsMap.lookup h1 lawIR Try.underlying43 (zeroPN w) (zd := DataW.nil) (zp := []) rfl (keyOf_int_mk (P := Try.prog) Try.underlying3 hp)
  cases hf : nt p with
  | none =>
    rw [h2.miss hf] at hv
    rw [ptElem_nil hv] at hrun
    exact hrun
  | some r =>
    rw [h2.at_ p r hf] at hv
    rw [ptElem_pt hv] at hrun
    exact hrun
/-- Notes of a new place. -/
theorem RcS.newNote (S : RcS w F xb sy da ck fs nt sl m N) (hN : N < 1048576) (p : Int) (hp : (Lit.int .i64 p).wf = true) (hnone : nt p = none) {w1 w2 : World} (hw1 : w.alloc (.map #[] 0) = w1) (hw2 : w1.alloc (.cells #[.int .i64 0, .int .i64 0, .bool false, .map (some w.heap.size)] 59) = w2) :
    ∃ w3, (Instr.mapUpdate 43 (.map (some da)) (.int .i64 p) (.pointer (some ⟨w1.heap.size, 0, none⟩))).run Try.prog w2 = .ok () w3 ∧ RcS w3 (fun x => F x ∨ x = w1.heap.size ∨ x = w.heap.size) xb sy da ck fs (upO nt p (nt0 w1.heap.size w.heap.size)) sl m (N + 1) ∧ Tch F w w3 := by
  have b1 : Below w.heap.size w w1 := by rw [← hw1]; exact bel_boxC _ _
  have b2 : Below w1.heap.size w1 w2 := by rw [← hw2]; exact bel_boxC _ _
  have e1 : w1.heap.size = w.heap.size + 1 := by rw [← hw1]; simp only [World.alloc, Array.size_push]
  have e2 : w2.heap.size = w1.heap.size + 1 := by rw [← hw2]; simp only [World.alloc, Array.size_push]
  have k1 : w1.ownsMap Try.prog 3 (plainElem Try.prog 3) w.heap.size 0 (.map [] : DataW Unit) := by rw [← hw1]; exact World.ownsMap_made w Try.prog 3 _
  have k2 : Blk w2 w1.heap.size 59 (ntC (nt0 w1.heap.size w.heap.size)) := by rw [← hw2]; exact Blk.new _ _ _
  have h12 := b1.trans (b2.mono b1.size)
  have S2 := S.below h12
  obtain ⟨D, q1, q2⟩ := S2.d
  obtain ⟨w3, hrun, q3, hg⟩ := World.ownsMap.update q1 lawIR Try.underlying43 (show N < maxLen by unfold maxLen; omega) (keyOf_int_mk (P := Try.prog) Try.underlying3 hp) (ptElem_mk w1.heap.size)
  have hT : Tch (fun x => x = da) w2 w3 := ⟨hg.os, hg.tape, hg.output, hg.size, fun k hk hn => hg.block k hk (fun e => hn (by injection e))⟩
  have hk : ∀ x, x < w2.heap.size → x ≠ da → w3.heap[x]? = w2.heap[x]? := fun x hx hne => hT.block x hx hne
  have hdlt := S.ltF da S.inF.2.2.1
  have hF : ∀ x, F x → x < w.heap.size := S.ltF
  refine ⟨w3, hrun, ⟨?_, ?_, ⟨_, q3, q2.put p (nt0 w1.heap.size w.heap.size)⟩, fun k r hr => ?_, ?_, S.ckl, S.fsl, ⟨.inl S.inF.1, .inl S.inF.2.1, .inl S.inF.2.2.1, fun k r hr => ?_, fun g hg' => .inl (S.inF.2.2.2.2 g hg')⟩, fun x hx => ?_, S.ap, fun k r hr => ?_, fun k r k' r' hr hr' hne => ?_, fun g hg' => ⟨(S.apc g hg').1, (S.apc g hg').2.1, (S.apc g hg').2.2.1, fun k r hr => ?_⟩, fun k r hr => ?_⟩, ?_⟩
  · obtain ⟨C, c1, c2⟩ := S2.x; exact ⟨C, (hk _ (S2.ltF _ S.inF.1) S.ap.2.1).trans c1, c2⟩
  · obtain ⟨E, c1, c2⟩ := S2.s; exact ⟨E, (ownsMap_atR c1 (hk _ (S2.ltF _ S.inF.2.1) S.ap.2.2)).mono (Nat.le_succ _), c2⟩
  · by_cases e : k = p
    · subst e
      rw [upO_self] at hr
      obtain rfl := Option.some.inj hr
      refine ⟨(hk _ (by show w1.heap.size < _; omega) (by show w1.heap.size ≠ _; omega)).trans k2, _, (ownsMap_atR (ownsMap_atR k1 (b2.block _ (by omega))) (hk _ (by omega) (by omega))).mono (Nat.zero_le _), KvF.nil⟩
    · rw [upO_ne nt e] at hr
      obtain ⟨c1, E, c2, c3⟩ := S2.n k r hr
      have := S.apn k r hr
      exact ⟨(hk _ (S2.ltF _ (S.inF.2.2.2.1 k r hr).1) this.2.2.2.1).trans c1, E, (ownsMap_atR c2 (hk _ (S2.ltF _ (S.inF.2.2.2.1 k r hr).2) this.2.2.2.2.2.2)).mono (Nat.le_succ _), c3⟩
  · obtain ⟨xs, h, h1c⟩ := S2.c; exact ⟨xs, ownsRow_atR h (fun g hg' => hk g (S2.ltF _ (S.inF.2.2.2.2 g hg')) (S.apc g hg').2.2.1), h1c⟩
  · by_cases e : k = p
    · subst e
      rw [upO_self] at hr
      obtain rfl := Option.some.inj hr
      exact ⟨.inr (.inl rfl), .inr (.inr rfl)⟩
    · rw [upO_ne nt e] at hr
      exact ⟨.inl (S.inF.2.2.2.1 k r hr).1, .inl (S.inF.2.2.2.1 k r hr).2⟩
  · have h3 := hT.size
    rcases hx with hx | rfl | rfl
    · have := hF x hx; omega
    · omega
    · omega
  · by_cases e : k = p
    · subst e
      rw [upO_self] at hr
      obtain rfl := Option.some.inj hr
      have a1 := hF xb S.inF.1
      have a2 := hF sy S.inF.2.1
      show w1.heap.size ≠ w.heap.size ∧ w1.heap.size ≠ xb ∧ w1.heap.size ≠ sy ∧ w1.heap.size ≠ da ∧ w.heap.size ≠ xb ∧ w.heap.size ≠ sy ∧ w.heap.size ≠ da
      omega
    · rw [upO_ne nt e] at hr
      exact S.apn k r hr
  · by_cases e : k = p
    · subst e
      rw [upO_self] at hr
      obtain rfl := Option.some.inj hr
      rw [upO_ne nt (fun q => hne q.symm)] at hr'
      have a1 := hF _ (S.inF.2.2.2.1 k' r' hr').1
      have a2 := hF _ (S.inF.2.2.2.1 k' r' hr').2
      show w1.heap.size ≠ r'.b ∧ w1.heap.size ≠ r'.rb ∧ w.heap.size ≠ r'.b ∧ w.heap.size ≠ r'.rb
      omega
    · rw [upO_ne nt e] at hr
      by_cases e' : k' = p
      · subst e'
        rw [upO_self] at hr'
        obtain rfl := Option.some.inj hr'
        have a1 := hF _ (S.inF.2.2.2.1 k r hr).1
        have a2 := hF _ (S.inF.2.2.2.1 k r hr).2
        show r.b ≠ w1.heap.size ∧ r.b ≠ w.heap.size ∧ r.rb ≠ w1.heap.size ∧ r.rb ≠ w.heap.size
        omega
      · rw [upO_ne nt e'] at hr'
        exact S.apm k r k' r' hr hr' hne
  · by_cases e : k = p
    · subst e
      rw [upO_self] at hr
      obtain rfl := Option.some.inj hr
      have a1 := hF g (S.inF.2.2.2.2 g hg')
      show g ≠ w1.heap.size ∧ g ≠ w.heap.size
      omega
    · rw [upO_ne nt e] at hr
      exact (S.apc g hg').2.2.2 k r hr
  · by_cases e : k = p
    · subst e
      rw [upO_self] at hr
      obtain rfl := Option.some.inj hr
      exact ⟨show 0 < 65 by decide, fun v t h => by cases h⟩
    · rw [upO_ne nt e] at hr
      exact S.nb k r hr
  · exact (Tch.of_below (S := F) h12).trans (hT.mono (S' := F) (fun k _ e => by rw [e]; exact S.inF.2.2.1)) (fun _ h => .inl h)
end
set_option maxRecDepth 100000 in
set_option maxHeartbeats 4000000 in
theorem rc_at {w : World} {F : Nat → Prop} {xb sy da : Nat} {ck : Nat → List Int} {fs : Int → Option (List Int)} {nt : Int → Option NtR} {sl : Value} {m N : Nat} (S : RcS w F xb sy da ck fs nt sl m N) (hN : N < 1048576) (p : Int) (hp : (Lit.int .i64 p).wf = true) :
    Calls Try.prog 26 #[.pointer (some ⟨xb, 0, none⟩), .int .i64 p] w (fun e w' => ∃ F' r, e = .returned (.pointer (some ⟨r.b, 0, none⟩)) ∧ (nt p = some r ∨ (nt p = none ∧ r.wr = false ∧ r.rs = fun _ => none)) ∧ RcS w' F' xb sy da ck fs (upO nt p r) sl m (N + 1) ∧ Tch F w w' ∧ (∀ x, F' x → F x ∨ w.heap.size ≤ x)) := by
  have cd := S.damap
  have hlk := S.look p hp
  cases hf : nt p with
  | some r =>
    rw [hf] at hlk
    have hlk' : (Instr.lookup 43 (.map (some da)) (.int .i64 p) false).run Try.prog w = .ok (.pointer (some ⟨r.b, 0, none⟩)) w := hlk
    have hu : upO nt p r = nt := by
      funext k
      unfold upO
      split
      · rename_i e; rw [e, hf]
      · rfl
    have HS := Lib.hid (S.more (Nat.le_succ N))
    rw [← hu] at HS
    obtain ⟨n', hn'⟩ : ∃ q, upO nt p r = q := ⟨_, rfl⟩
    rw [hn'] at HS
    have HN' := Lib.hid hn'
    have HT := Lib.hid (Tch.refl F w)
    clear S hlk hf hu hn'
    go_enter Try.func26, Try.ntmps26
    go_wp2_with fail
    go_ret
    refine ⟨F, r, rfl, .inl rfl, ?_, HT.out, fun _ h => .inl h⟩
    rw [HN'.out]
    exact HS.out
  | none =>
    rw [hf] at hlk
    have hlk' : (Instr.lookup 43 (.map (some da)) (.int .i64 p) false).run Try.prog w = .ok (.pointer none) w := hlk
    obtain ⟨w1, hw1⟩ : ∃ x, w.alloc (.map #[] 0) = x := ⟨_, rfl⟩
    obtain ⟨w2, hw2⟩ : ∃ x, w1.alloc (.cells #[.int .i64 0, .int .i64 0, .bool false, .map (some w.heap.size)] 59) = x := ⟨_, rfl⟩
    have hmm : (Instr.makeMap 57 none).run Try.prog w = .ok (.map (some w.heap.size)) w1 := by rw [← hw1]; exact run_makeMap _ _
    obtain ⟨w3, hrun, hS3, hT3⟩ := S.newNote hN p hp hf hw1 hw2
    have b1 : Below w.heap.size w w1 := by rw [← hw1]; exact bel_boxC _ _
    have b2 : Below w1.heap.size w1 w2 := by rw [← hw2]; exact bel_boxC _ _
    have cd2 : w2.cell? ⟨xb, 4226, none⟩ = some (.map (some da)) := (S.below (b1.trans (b2.mono b1.size))).damap
    have HS3 := Lib.hid hS3
    have HT3 := Lib.hid hT3
    have HLT := Lib.hid b1.size
    clear S hlk hS3 hT3 b1 b2 hw1
    go_enter Try.func26, Try.ntmps26
    go_upto_region 4 with fail
    (try rw [hw2])
    clear hw2
    go_wp2_with fail
    go_ret
    exact ⟨_, nt0 w1.heap.size w.heap.size, rfl, (by first | exact .inr ⟨rfl, rfl, rfl⟩ | exact .inr ⟨trivial, rfl, rfl⟩ | exact ⟨rfl, rfl⟩), HS3.out, HT3.out, fun x hx => by
      rcases hx with hx | rfl | rfl
      · exact .inl hx
      · exact .inr HLT.out
      · exact .inr (Nat.le_refl _)⟩
end Go.Proofs.Ytoodifpkconfcaa
