/- Planes by what they are, wherever they lie: contracts of Put, Link, Drop and the others. -/
import Derived.Test.YtckclflbcgblaaaPmR
import Derived.Test.YtckclflbcgblaaaSame
namespace Go.Proofs.Ytckclflbcgblaaa
open Go.RowKit Go.Maps Go.ChangeMaps Go.MapKept
theorem nm_id {d d' : ND} (h : d.norm = d'.norm) : d.id = d'.id := by have e := congrArg ND.id h; exact e
theorem nm_next {d d' : ND} (h : d.norm = d'.norm) : d.next = d'.next := by have e := congrArg ND.next h; exact e
theorem nm_prev {d d' : ND} (h : d.norm = d'.norm) : d.prev = d'.prev := by have e := congrArg ND.prev h; exact e
theorem nm_level {d d' : ND} (h : d.norm = d'.norm) : d.level = d'.level := by have e := congrArg ND.level h; exact e
theorem nm_ln {d d' : ND} (h : d.norm = d'.norm) : d.ln = d'.ln := by have e := congrArg ND.ln h; exact e
section
variable {ns ns' : List ND}
theorem Eqv.id_ (h : Eqv ns ns') (x : Int) : idI ns x = idI ns' x := nm_id (h.nAt x.toNat)
theorem Eqv.hasId (h : Eqv ns ns') (id : Int) : hasId ns id = Proofs.Ytckclflbcgblaaa.hasId ns' id := by
  unfold Proofs.Ytckclflbcgblaaa.hasId
  rw [h.live]
  exact List.any_congr rfl fun x => by rw [h.id_]
theorem Eqv.putW (h : Eqv ns ns') (links en tp level id : Int) : putW ns links en tp level id = Proofs.Ytckclflbcgblaaa.putW ns' links en tp level id := by
  unfold Proofs.Ytckclflbcgblaaa.putW
  rw [h.chk, h.hasId, h.live]
theorem Eqv.slot (h : Eqv ns ns') : slotI ns = slotI ns' := by unfold slotI slotJ; rw [h.live]
theorem Eqv.putND (h : Eqv ns ns') (id : Int) (vn : Nat) (vxs : List Int) (tags level : Int) : putND ns id vn vxs tags level = Proofs.Ytckclflbcgblaaa.putND ns' id vn vxs tags level := by
  unfold Proofs.Ytckclflbcgblaaa.putND
  rw [show (Proofs.Ytckclflbcgblaaa.nAt ns 0).next = (Proofs.Ytckclflbcgblaaa.nAt ns' 0).next from nm_next (h.nAt 0)]
theorem Eqv.grow (h : Eqv ns ns') (slot : Nat) : Eqv (growN ns slot) (growN ns' slot) := by
  unfold growN
  rw [h.len]
  split
  · unfold Eqv at h ⊢
    rw [List.map_append, List.map_append, h]
  · exact h
theorem Eqv.putSt (h : Eqv ns ns') (slot : Nat) (d : ND) : Eqv (putSt ns slot d) (Proofs.Ytckclflbcgblaaa.putSt ns' slot d) := by
  unfold Proofs.Ytckclflbcgblaaa.putSt
  rw [show (Proofs.Ytckclflbcgblaaa.nAt ns 0).next = (Proofs.Ytckclflbcgblaaa.nAt ns' 0).next from nm_next (h.nAt 0)]
  exact linkN_eqv ((h.grow slot).set slot rfl) _ _
theorem Eqv.ls (h : Eqv ns ns') (i k : Nat) : (lsAt (Proofs.Ytckclflbcgblaaa.nAt ns i) k).xs = (lsAt (Proofs.Ytckclflbcgblaaa.nAt ns' i) k).xs := by rw [← lsAt_norm (Proofs.Ytckclflbcgblaaa.nAt ns i) k, h.nAt i, lsAt_norm]
theorem lsSet_eqv2 (h : Eqv ns ns') (i k : Nat) (xs : List Int) : Eqv (lsSet ns i k xs) (lsSet ns' i k xs) := lsSet_eqv h i k rfl
theorem Eqv.linkB (h : Eqv ns ns') (links en tp a b level : Int) : linkB ns links en tp a b level = Proofs.Ytckclflbcgblaaa.linkB ns' links en tp a b level := by
  unfold Proofs.Ytckclflbcgblaaa.linkB
  rw [h.chk, h.thB, h.thB, h.ls, h.ls, show (Proofs.Ytckclflbcgblaaa.nAt ns a.toNat).level = (Proofs.Ytckclflbcgblaaa.nAt ns' a.toNat).level from nm_level (h.nAt _), show (Proofs.Ytckclflbcgblaaa.nAt ns b.toNat).level = (Proofs.Ytckclflbcgblaaa.nAt ns' b.toNat).level from nm_level (h.nAt _)]
theorem Eqv.linkSt (h : Eqv ns ns') (a b k : Nat) : Eqv (linkSt ns a b k) (Proofs.Ytckclflbcgblaaa.linkSt ns' a b k) := by
  unfold Proofs.Ytckclflbcgblaaa.linkSt
  rw [h.ls, h.ls]
  exact lsSet_eqv2 (lsSet_eqv2 h _ _ _) _ _ _
theorem Eqv.dropB (h : Eqv ns ns') (links en tp slot : Int) : dropB ns links en tp slot = Proofs.Ytckclflbcgblaaa.dropB ns' links en tp slot := by unfold Proofs.Ytckclflbcgblaaa.dropB; rw [h.chk, h.thB]
theorem dropX_eqv (h : Eqv ns ns') (slot k : Nat) (x : Int) : Eqv (dropX slot k ns x) (dropX slot k ns' x) := by
  unfold dropX
  rw [h.ls]
  exact lsSet_eqv2 h _ _ _
theorem foldX_eqv (slot k : Nat) : ∀ (xs : List Int) {l l' : List ND}, Eqv l l' → Eqv (xs.foldl (dropX slot k) l) (xs.foldl (dropX slot k) l')
  | [], _, _, h => h
  | x :: xs, _, _, h => by rw [List.foldl_cons, List.foldl_cons]; exact foldX_eqv slot k xs (dropX_eqv h slot k x)
theorem dropL_eqv {d d' : ND} (hd : d.norm = d'.norm) (h : Eqv ns ns') (slot : Nat) : ∀ m, Eqv (dropL slot d ns m) (dropL slot d' ns' m)
  | 0 => h
  | m + 1 => by
    rw [dropL_succ, dropL_succ]
    unfold dropK
    rw [show (lsAt d m).xs = (lsAt d' m).xs by rw [← lsAt_norm d m, hd, lsAt_norm]]
    exact foldX_eqv slot m _ (dropL_eqv hd h slot m)
theorem Eqv.dropSt (h : Eqv ns ns') (slot : Nat) : Eqv (dropSt ns slot) (Proofs.Ytckclflbcgblaaa.dropSt ns' slot) := by
  unfold Proofs.Ytckclflbcgblaaa.dropSt
  have hn := h.nAt slot
  rw [show (Proofs.Ytckclflbcgblaaa.nAt ns slot).prev = (Proofs.Ytckclflbcgblaaa.nAt ns' slot).prev from nm_prev hn, show (Proofs.Ytckclflbcgblaaa.nAt ns slot).next = (Proofs.Ytckclflbcgblaaa.nAt ns' slot).next from nm_next hn, show (Proofs.Ytckclflbcgblaaa.nAt ns slot).ln = (Proofs.Ytckclflbcgblaaa.nAt ns' slot).ln from nm_ln hn]
  exact (dropL_eqv hn (unlink_eqv h _ _) slot _).set slot rfl
end
/-- A plane like L. -/
def PgE (w : World) (g n c : Nat) (L : List ND) : Prop := ∃ ns, PgAt w w.heap.size (some ⟨g, 0, none⟩) n c ns ∧ Eqv L ns
theorem PgE.below {w w' : World} {g n c : Nat} {L : List ND} (h : PgE w g n c L) (hb : Below w.heap.size w w') : PgE w' g n c L := by
  obtain ⟨ns, h1, h2⟩ := h
  exact ⟨ns, h1.on hb hb.size, h2⟩
theorem PgE.len {w : World} {g n c : Nat} {L : List ND} (h : PgE w g n c L) : L.length = n := by obtain ⟨ns, h1, h2⟩ := h; rw [h2.len, h1.len]
theorem PgE.eqv {w : World} {g n c : Nat} {L L' : List ND} (h : PgE w g n c L) (he : Eqv L L') : PgE w g n c L' := by obtain ⟨ns, h1, h2⟩ := h; exact ⟨ns, h1, he.symm.trans h2⟩
/-- .. in a box. -/
structure PV (w : World) (t g n c : Nat) (en tp : Int) (L : List ND) : Prop where
  blk : Blk w t 27 (pgL (some ⟨g, 0, none⟩) n c en tp)
  pge : PgE w g n c L
theorem PV.below {w w' : World} {t g n c : Nat} {en tp : Int} {L : List ND} (h : PV w t g n c en tp L) (hb : Below w.heap.size w w') : PV w' t g n c en tp L := ⟨h.blk.below hb h.blk.lt, h.pge.below hb⟩
theorem PV.load {w : World} {t g n c : Nat} {en tp : Int} {L : List ND} (h : PV w t g n c en tp L) : (Instr.loadAt 27 (.pointer (some ⟨t, 0, none⟩))).run Try.prog w = .ok (.agg #[.slice (some ⟨g, 0, none⟩) n c, .int .i64 en, .int .i64 tp]) w := plane_load h.blk
theorem plane_put (W : World) (A : Option Addr) (n c : Nat) (en tp : Int) : (Instr.storeAt 27 (.pointer (some ⟨W.heap.size, 0, none⟩)) (.agg #[.slice A n c, .int .i64 en, .int .i64 tp])).run Try.prog (W.alloc (.cells #[.slice none 0 0, .int .i64 0, .int .i64 0] 27)) =
    .ok () ((W.alloc (.cells (pgL none 0 0 0 0) 27)).setCells W.heap.size 0 (pgL A n c en tp).toList) := row_store (Blk.new W 27 (pgL none 0 0 0 0)) (pgL A n c en tp) rfl planeT (by simp [pgL, Value.oneCell'])
theorem plane_bel (W : World) (A : Option Addr) (n c : Nat) (en tp : Int) : Below W.heap.size W ((W.alloc (.cells (pgL none 0 0 0 0) 27)).setCells W.heap.size 0 (pgL A n c en tp).toList) := below_setCells (bel_box _ _) (Nat.le_refl _) (Nat.le_refl _) _ _
theorem PV.new {W : World} {g n c : Nat} {en tp : Int} {L : List ND} (h : PgE W g n c L) : PV ((W.alloc (.cells (pgL none 0 0 0 0) 27)).setCells W.heap.size 0 (pgL (some ⟨g, 0, none⟩) n c en tp).toList) W.heap.size g n c en tp L :=
  ⟨(Blk.new W 27 (pgL none 0 0 0 0)).put _ rfl, h.below (plane_bel W _ _ _ _ _)⟩
section
variable {w : World} {g n c : Nat} {en tp : Int} {L : List ND}
/-- What Put tells, and what Link and Drop do. -/
def RetPut (L : List ND) (slot : Nat) (en tp : Int) (w : World) (e : Ending) (w' : World) : Prop := ∃ g n c, e = .returned (.tuple #[.agg #[.slice (some ⟨g, 0, none⟩) n c, .int .i64 en, .int .i64 tp], .int .i64 (slot : Int), .int .i64 0]) ∧ PgE w' g n c L ∧ Below w.heap.size w w'
def RetNo (y : Int) (w : World) (e : Ending) (w' : World) : Prop := e = .returned (.tuple #[.agg #[.slice none 0 0, .int .i64 0, .int .i64 0], .int .i64 0, .int .i64 y]) ∧ Below w.heap.size w w'
def RetIs (L : List ND) (en tp : Int) (b : Bool) (w : World) (e : Ending) (w' : World) : Prop := ∃ g n c, e = .returned (.tuple #[.agg #[.slice (some ⟨g, 0, none⟩) n c, .int .i64 en, .int .i64 tp], .bool b]) ∧ PgE w' g n c L ∧ Below w.heap.size w w'
theorem put_e (h : PgE w g n c L) (links level id : Int) (vA : Option Addr) (vn vc : Nat) (vxs : List Int) (tags : Int) (hv : IS.At w w.heap.size .i32 ⟨vA, vn, vc, vxs⟩) (hid : (Lit.int .u64 id).wf = true) (hy : putW L links en tp level id = 0) {s : Nat} (hs : slotI L = s) :
    Calls Try.prog 7 #[.agg #[.slice (some ⟨g, 0, none⟩) n c, .int .i64 en, .int .i64 tp], .agg #[.int .u64 id, .slice vA vn vc, .int .u64 tags], .int .i64 level, .int .i64 links] w (RetPut (putSt L s (putND L id vn vxs tags level)) s en tp w) := by
  obtain ⟨ns, h1, h2⟩ := h
  subst hs
  refine (pl_put (some ⟨g, 0, none⟩) n c ns en tp links level id vA vn vc vxs tags w h1 hv hid).mono ?_
  rintro e w' (⟨q1, q2, q3⟩ | ⟨_, g', n', c', ns', q2, q3, q4, q5⟩)
  · rw [← h2.putW] at q1; exact absurd hy q1
  · refine ⟨g', n', c', by rw [q2, h2.slot]; rfl, ⟨ns', q3, ?_⟩, q5⟩
    rw [h2.slot, h2.putND]
    exact (h2.putSt _ _).trans q4
theorem put_no (h : PgE w g n c L) (links level id : Int) (vA : Option Addr) (vn vc : Nat) (vxs : List Int) (tags : Int) (hv : IS.At w w.heap.size .i32 ⟨vA, vn, vc, vxs⟩) (hid : (Lit.int .u64 id).wf = true) {y : Int} (hy : putW L links en tp level id = y) (hy0 : y ≠ 0) :
    Calls Try.prog 7 #[.agg #[.slice (some ⟨g, 0, none⟩) n c, .int .i64 en, .int .i64 tp], .agg #[.int .u64 id, .slice vA vn vc, .int .u64 tags], .int .i64 level, .int .i64 links] w (RetNo y w) := by
  obtain ⟨ns, h1, h2⟩ := h
  refine (pl_put (some ⟨g, 0, none⟩) n c ns en tp links level id vA vn vc vxs tags w h1 hv hid).mono ?_
  rintro e w' (⟨q1, q2, q3⟩ | ⟨q1, _⟩)
  · rw [← h2.putW, hy] at q2; exact ⟨q2, q3⟩
  · rw [← h2.putW, hy] at q1; exact absurd q1 hy0
theorem drop_e (h : PgE w g n c L) (h0 : 0 < n) (links slot : Int) {r : Bool} (hr : dropB L links en tp slot = r) :
    Calls Try.prog 8 #[.agg #[.slice (some ⟨g, 0, none⟩) n c, .int .i64 en, .int .i64 tp], .int .i64 slot, .int .i64 links] w (RetIs (if r then dropSt L slot.toNat else L) (if r && (en == slot) then 0 else en) (if r && (en == slot) then 0 else tp) r w) := by
  obtain ⟨ns, h1, h2⟩ := h
  refine (pl_drop (some ⟨g, 0, none⟩) n c ns en tp links slot w h1 h0).mono ?_
  rintro e w' ⟨g', n', c', ns', q2, q3, q4, q5⟩
  rw [← h2.dropB, hr] at q2 q4
  refine ⟨g', n', c', q2, ⟨ns', q3, Eqv.trans ?_ q4⟩, q5⟩
  cases r with
  | true => exact h2.dropSt _
  | false => exact h2
theorem chk_e (h : PgE w g n c L) (links : Int) {y : Int} (hy : chkW L links en tp = y) : Calls Try.prog 12 #[.agg #[.slice (some ⟨g, 0, none⟩) n c, .int .i64 en, .int .i64 tp], .int .i64 links] w (RetE y w) := by
  obtain ⟨ns, h1, h2⟩ := h
  rw [← hy, h2.chkW]
  exact pl_check _ _ _ _ _ _ _ _ h1
theorem there_e (h : PgE w g n c L) (s : Int) {y : Bool} (hy : thB L s = y) : Calls Try.prog 20 #[.agg #[.slice (some ⟨g, 0, none⟩) n c, .int .i64 en, .int .i64 tp], .int .i64 s] w (RetB y w) := by
  obtain ⟨ns, h1, h2⟩ := h
  rw [← hy, h2.thB]
  exact pl_there _ _ _ _ _ _ _ _ h1
theorem live_e (h : PgE w g n c L) {y : List Int} (hy : liveI L = y) : Calls Try.prog 13 #[.agg #[.slice (some ⟨g, 0, none⟩) n c, .int .i64 en, .int .i64 tp]] w (RetI y w) := by
  obtain ⟨ns, h1, h2⟩ := h
  rw [← hy, h2.live]
  exact pl_live _ _ _ _ _ _ _ h1
theorem ring_e (h : PgE w g n c L) {y : List Int} (hy : ringI L = y) : Calls Try.prog 11 #[.agg #[.slice (some ⟨g, 0, none⟩) n c, .int .i64 en, .int .i64 tp]] w (RetI y w) := by
  obtain ⟨ns, h1, h2⟩ := h
  rw [← hy, h2.ring]
  exact pl_ring _ _ _ _ _ _ _ h1
theorem near_e (h : PgE w g n c L) (s level : Int) {y : List Int} (hy : nearI L s level = y) : Calls Try.prog 15 #[.agg #[.slice (some ⟨g, 0, none⟩) n c, .int .i64 en, .int .i64 tp], .int .i64 s, .int .i64 level] w (RetI y w) := by
  obtain ⟨ns, h1, h2⟩ := h
  rw [← hy, h2.near]
  exact pl_near _ _ _ _ _ _ _ _ _ h1
theorem new_e : Calls Try.prog 6 #[] w (fun e w' => ∃ g n c, e = .returned (.agg #[.slice (some ⟨g, 0, none⟩) n c, .int .i64 0, .int .i64 0]) ∧ PgE w' g n c [nd0] ∧ Below w.heap.size w w') :=
  (pl_new w).mono fun _ _ ⟨g, n, c, ns, q1, q2, q3, q4⟩ => ⟨g, n, c, q1, ⟨ns, q2, by rw [q3]; exact Eqv.refl _⟩, q4⟩
end
theorem vec0 (w : World) : IS.At w w.heap.size .i32 ⟨none, 0, 0, []⟩ := ⟨fun _ => ⟨rfl, rfl⟩, Nat.zero_le _, Rd.nil_, (fun x hx => by cases hx)⟩
theorem ints_at_lits (w : World) (cs : List Int) (n : Nat) (hn : cs.length = n) : Rd (w.alloc (.cells (cs.map (Value.int .i64)).toArray 3)) (w.alloc (.cells (cs.map (Value.int .i64)).toArray 3)).heap.size (some ⟨w.heap.size, 0, none⟩) n (cs.map (.int .i64)) := by
  subst hn
  exact IB.rd (g := w.heap.size) (t := 3) (cs := cs) ⟨[], by rw [heap_alloc_new]; simp⟩
end Go.Proofs.Ytckclflbcgblaaa
