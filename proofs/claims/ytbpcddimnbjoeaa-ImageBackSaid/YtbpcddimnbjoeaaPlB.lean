/- Planes: the slots that are there. -/
import Derived.Test.YtbpcddimnbjoeaaPlA
import Derived.Test.YtbpcddimnbjoeaaMem
import Derived.Deep.Onto
namespace Go.Proofs.Ytbpcddimnbjoeaa
open Go.RowKit

/-- A list of the call's own. -/
def OwnI (w : World) (B : Nat) (A : Option Addr) (n c : Nat) (xs : List Int) : Prop := w.ownsRow B 3 1 (.slice A n c) n (xs.map (.int .i64))
theorem OwnI.len {w : World} {B : Nat} {A : Option Addr} {n c : Nat} {xs : List Int} (h : OwnI w B A n c xs) : xs.length = n := by simpa using h.1
theorem own_keep {w w' : World} {base e sz n : Nat} {v : Value} {xs : List Value} (h : w.ownsRow base e sz v n xs) (hb : Below w.heap.size w w') : w'.ownsRow base e sz v n xs :=
  h.kept (only_of_below hb none) (by cases v.ownBlock <;> simp)
theorem OwnI.below {w w' : World} {B : Nat} {A : Option Addr} {n c : Nat} {xs : List Int} (h : OwnI w B A n c xs) (hb : Below w.heap.size w w') : OwnI w' B A n c xs := own_keep h hb
theorem OwnI.mono {w : World} {B B' : Nat} {A : Option Addr} {n c : Nat} {xs : List Int} (h : OwnI w B A n c xs) (hB : B' ≤ B) : OwnI w B' A n c xs := World.ownsRow.mono h hB
theorem OwnI.rd {w : World} {B : Nat} {A : Option Addr} {n c : Nat} {xs : List Int} (h : OwnI w B A n c xs) : Rd w w.heap.size A n (xs.map (.int .i64)) := Rd.of_own h
theorem OwnI.nil_ (w : World) (B : Nat) : OwnI w B none 0 0 [] := World.ownsRow_nil _ _ _ _
theorem OwnI.none_ {w : World} {B : Nat} {A : Option Addr} {n c : Nat} {xs : List Int} (h : OwnI w B A n c xs) : A = none → n = 0 ∧ c = 0 := by
  intro e
  rcases h.2 with ⟨q, _⟩ | ⟨g, cap, cur, q, _⟩
  · injection q with _ q2 q3; exact ⟨q2, q3⟩
  · subst e; injection q with q1 _ _; cases q1
/-- What is told: a list. -/
def RetI (xs : List Int) (w : World) (e : Ending) (w' : World) : Prop := ∃ A n c, e = .returned (.slice A n c) ∧ OwnI w' w.heap.size A n c xs ∧ Below w.heap.size w w'
/-- The slots that are there, up to one. -/
def lvI (ns : List ND) (k : Nat) : List Int := ((List.range k).filter (thN ns)).map fun i : Nat => (i : Int)
theorem lvI_le (ns : List ND) (k : Nat) : (lvI ns k).length ≤ k := by
  unfold lvI
  rw [List.length_map]
  have := List.length_filter_le (thN ns) (List.range k)
  rwa [List.length_range] at this
theorem lvI_succ (ns : List ND) (k : Nat) : lvI ns (k + 1) = lvI ns k ++ if thN ns k then [(k : Int)] else [] := by
  unfold lvI
  rw [List.range_succ, List.filter_append, List.map_append]
  congr 1
  cases h : thN ns k <;> simp [h]
theorem lvI_one (ns : List ND) : lvI ns 1 = [] := by
  have h : thN ns 0 = false := by simp [thN]
  show List.map _ (List.filter (thN ns) (List.range 1)) = []
  simp [List.range_succ, h]
def liveI (ns : List ND) : List Int := lvI ns ns.length
set_option maxRecDepth 100000 in
set_option maxHeartbeats 1000000 in
theorem pl_live (A : Option Addr) (n c : Nat) (ns : List ND) (en tp : Int) (w : World) (hg : PgAt w w.heap.size A n c ns) :
    Calls Try.prog 36 #[.agg (pgL A n c en tp)] w (RetI (liveI ns) w) := by
  obtain ⟨w1, hw1⟩ : ∃ x, w.alloc (.cells (pgL A n c en tp) 24) = x := ⟨_, rfl⟩
  obtain ⟨C1, b1⟩ := box_plane hw1
  have hlen := hg.len
  have hn := hg.2.1
  have HG := Lib.hid (hg.on b1 b1.size)
  have HC := Lib.hid C1
  have HL := Lib.hid hlen
  have c0 : w1.cell? ⟨w.heap.size, 0, none⟩ = some (.slice A n c) := C1.cell 0
  have HB := Lib.hid b1
  have hbl := Lib.hid C1.lt
  clear hg C1 b1 hlen
  unfold pgL at hw1 ⊢
  go_enter Try.func36, Try.ntmps36
  go_upto_region 1 with fail
  (try rw [hw1])
  clear hw1
  go_wp2_with fail
  go_loopw [3, 4, 8] (fun s3 _ sI wr => ∃ (j m : Nat) (A' : Option Addr) (c' : Nat), j ≤ n ∧ m ≤ j ∧ sI = .int .i64 j ∧ s3 = .slice A' m c' ∧ Hid (OwnI wr w1.heap.size A' m c' (lvI ns j)) ∧ Hid (Below w1.heap.size w1 wr)) (fun _ _ sI _ => n - (intOf sI).toNat)
  case atStart => exact ⟨0, 0, none, 0, Nat.zero_le _, Nat.zero_le _, rfl, rfl, Lib.hid (by exact OwnI.nil_ _ _), Lib.hid (Below.refl _ _)⟩
  case round =>
    obtain ⟨j, m, A', c', hj, hm, rfl, rfl, ho, hb⟩ := hrel
    have c0r : wr.cell? ⟨w.heap.size, 0, none⟩ = some (.slice A n c) := (hb.out.cell (p := ⟨w.heap.size, 0, none⟩) hbl.out).trans c0
    by_cases hlt : j < n
    · have LP := plane_load (HC.out.below hb.out hbl.out)
      have HT := Lib.hid (pl_there A n c ns en tp j wr (HG.out.on hb.out hb.out.size))
      rw [thB_nat] at HT
      have HS := Lib.hid (lvI_succ ns j)
      have hsz := hb.out.size
      unfold pgL at LP
      cases hq : thN ns j with
      | true =>
        rw [hq] at HT HS
        clear hq
        go_wp2_with (first
          | refine wpList_loadE LP _ rfl rfl rfl ?_
          | (go_at_call 16; refine HT.out.mono ?_; rintro e w2 ⟨rfl, bt⟩; have ho2 := Lib.hid (ho.out.below bt); have hb2 := Lib.hid (hb.out.trans (bt.mono hsz)); clear bt)
          | (at_builtin; refine wpList_push rfl (.tmp 14) (.tmp 16) _ rfl w1.heap.size 3 .i64 8 (by decide) Try.underlying43 info_int w2 A' m c' (lvI ns j) _ rfl ho2.out rfl (by omega) hb2.out.size ?_; intro g' c'' w3 ho3 hb3))
        have HO3 : Hid (OwnI w3 w1.heap.size (some ⟨g', 0, none⟩) (m + 1) c'' (lvI ns (j + 1))) := by show OwnI _ _ _ _ _ _; rw [HS.out]; exact ho3
        have HB3 := Lib.hid (hb2.out.trans hb3)
        clear ho3 hb3 hb2 ho2 ho hb LP
        go_roundw
        case rel => exact ⟨j + 1, m + 1, some ⟨g', 0, none⟩, c'', by omega, by omega, by go_num, rfl, HO3, HB3⟩
        case measure => simp [intOf]; omega
      | false =>
        rw [hq] at HT HS
        clear hq
        go_wp2_with (first
          | refine wpList_loadE LP _ rfl rfl rfl ?_
          | (go_at_call 16; refine HT.out.mono ?_; rintro e w2 ⟨rfl, bt⟩; have ho2 := Lib.hid (ho.out.below bt); have hb2 := Lib.hid (hb.out.trans (bt.mono hsz)); clear bt))
        have HO3 : Hid (OwnI w2 w1.heap.size A' m c' (lvI ns (j + 1))) := by show OwnI _ _ _ _ _ _; rw [HS.out]; simpa using ho2.out
        clear ho2 ho hb LP
        go_roundw
        case rel => exact ⟨j + 1, m, A', c', by omega, by omega, by go_num, rfl, HO3, hb2⟩
        case measure => simp [intOf]; omega
    · obtain rfl : j = n := by omega
      have hv : OwnI wr w.heap.size A' m c' (liveI ns) := by
        have := ho.out.mono HB.out.size
        unfold liveI
        rw [HL.out]
        exact this
      have HR := Lib.hid hv
      have HBB := Lib.hid (HB.out.trans (hb.out.mono HB.out.size))
      clear hv ho hb
      go_wp2_with fail
      go_ret
      exact ⟨_, _, _, rfl, HR.out, HBB.out⟩
set_option maxRecDepth 100000 in
set_option maxHeartbeats 1000000 in
theorem rf_live (A : Option Addr) (n c : Nat) (ns : List ND) (en tp : Int) (w : World) (hg : PgAt w w.heap.size A n c ns) :
    Calls Try.prog 57 #[.agg (pgL A n c en tp)] w (RetI (liveI ns) w) := by
  obtain ⟨w1, hw1⟩ : ∃ x, w.alloc (.cells (pgL A n c en tp) 24) = x := ⟨_, rfl⟩
  obtain ⟨C1, b1⟩ := box_plane hw1
  have hlen := hg.len
  have hn := hg.2.1
  have HG := Lib.hid (hg.on b1 b1.size)
  have HC := Lib.hid C1
  have HL := Lib.hid hlen
  have c0 : w1.cell? ⟨w.heap.size, 0, none⟩ = some (.slice A n c) := C1.cell 0
  have HB := Lib.hid b1
  have hbl := Lib.hid C1.lt
  clear hg C1 b1 hlen
  unfold pgL at hw1 ⊢
  go_enter Try.func57, Try.ntmps57
  go_upto_region 1 with fail
  (try rw [hw1])
  clear hw1
  go_wp2_with fail
  go_loopw [3, 4] (fun s3 sI wr => ∃ (j m : Nat) (A' : Option Addr) (c' : Nat), 1 ≤ j ∧ (j ≤ n ∨ j = 1) ∧ m ≤ j ∧ sI = .int .i64 j ∧ s3 = .slice A' m c' ∧ Hid (OwnI wr w1.heap.size A' m c' (lvI ns j)) ∧ Hid (Below w1.heap.size w1 wr)) (fun _ sI _ => n - (intOf sI).toNat)
  case atStart => exact ⟨1, 0, none, 0, (by decide), (by omega), Nat.zero_le _, rfl, rfl, Lib.hid (by rw [lvI_one]; exact OwnI.nil_ _ _), Lib.hid (Below.refl _ _)⟩
  case round =>
    obtain ⟨j, m, A', c', h1, hj, hm, rfl, rfl, ho, hb⟩ := hrel
    have c0r : wr.cell? ⟨w.heap.size, 0, none⟩ = some (.slice A n c) := (hb.out.cell (p := ⟨w.heap.size, 0, none⟩) hbl.out).trans c0
    by_cases hlt : j < n
    · have LP := plane_load (HC.out.below hb.out hbl.out)
      have HT := Lib.hid (rf_there A n c ns en tp j wr (HG.out.on hb.out hb.out.size))
      rw [thB_nat] at HT
      have HS := Lib.hid (lvI_succ ns j)
      have hsz := hb.out.size
      unfold pgL at LP
      cases hq : thN ns j with
      | true =>
        rw [hq] at HT HS
        clear hq
        go_wp2_with (first
          | refine wpList_loadE LP _ rfl rfl rfl ?_
          | (go_at_call 23; refine HT.out.mono ?_; rintro e w2 ⟨rfl, bt⟩; have ho2 := Lib.hid (ho.out.below bt); have hb2 := Lib.hid (hb.out.trans (bt.mono hsz)); clear bt)
          | (at_builtin; refine wpList_push rfl (.tmp 15) (.tmp 17) _ rfl w1.heap.size 3 .i64 8 (by decide) Try.underlying43 info_int w2 A' m c' (lvI ns j) _ rfl ho2.out rfl (by omega) hb2.out.size ?_; intro g' c'' w3 ho3 hb3))
        have HO3 : Hid (OwnI w3 w1.heap.size (some ⟨g', 0, none⟩) (m + 1) c'' (lvI ns (j + 1))) := by show OwnI _ _ _ _ _ _; rw [HS.out]; exact ho3
        have HB3 := Lib.hid (hb2.out.trans hb3)
        clear ho3 hb3 hb2 ho2 ho hb LP
        go_roundw
        case rel => exact ⟨j + 1, m + 1, some ⟨g', 0, none⟩, c'', by omega, by omega, by omega, by go_num, rfl, HO3, HB3⟩
        case measure => simp [intOf]; omega
      | false =>
        rw [hq] at HT HS
        clear hq
        go_wp2_with (first
          | refine wpList_loadE LP _ rfl rfl rfl ?_
          | (go_at_call 23; refine HT.out.mono ?_; rintro e w2 ⟨rfl, bt⟩; have ho2 := Lib.hid (ho.out.below bt); have hb2 := Lib.hid (hb.out.trans (bt.mono hsz)); clear bt))
        have HO3 : Hid (OwnI w2 w1.heap.size A' m c' (lvI ns (j + 1))) := by show OwnI _ _ _ _ _ _; rw [HS.out]; simpa using ho2.out
        clear ho2 ho hb LP
        go_roundw
        case rel => exact ⟨j + 1, m, A', c', by omega, by omega, by omega, by go_num, rfl, HO3, hb2⟩
        case measure => simp [intOf]; omega
    · have hv : OwnI wr w.heap.size A' m c' (liveI ns) := by
        have := ho.out.mono HB.out.size
        unfold liveI
        rw [HL.out]
        by_cases e : j = n
        · rw [← e]; exact this
        · obtain rfl : n = 0 := by omega
          obtain rfl : j = 1 := by omega
          rw [lvI_one] at this
          exact this
      have HR := Lib.hid hv
      have HBB := Lib.hid (HB.out.trans (hb.out.mono HB.out.size))
      clear hv ho hb
      go_wp2_with fail
      go_ret
      exact ⟨_, _, _, rfl, HR.out, HBB.out⟩
end Go.Proofs.Ytbpcddimnbjoeaa
