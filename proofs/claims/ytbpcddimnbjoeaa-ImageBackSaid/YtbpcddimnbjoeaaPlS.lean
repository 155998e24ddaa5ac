/- Planes: whether the ring is right. -/
import Derived.Test.YtbpcddimnbjoeaaPlQ
import Derived.Deep.RegionHeld
namespace Go.Proofs.Ytbpcddimnbjoeaa
open Go.RowKit Go.Maps Go.ChangeMaps Go.MapKept
def bareB (d : ND) : Bool := (d.next == -1) && (d.prev == -1) && (d.level == 0) && ((d.ln : Int) == 0)
def placeB (ns : List ND) (s : Int) : Bool := (s == 0) || thB ns s
def rOk (ns : List ND) (i : Nat) : Bool := if (decide (0 < i) && !thN ns i) then bareB (nAt ns i) else placeB ns (nAt ns i).next && placeB ns (nAt ns i).prev && ((nAt ns (nAt ns i).next.toNat).prev == (i : Int))
def ringB (ns : List ND) : Bool := (List.range ns.length).all (rOk ns) && (((ringI ns).length : Int) == ((liveI ns).length : Int))
theorem ringB_bad {ns : List ND} {k : Nat} (hk : k < ns.length) (h : rOk ns k = false) : ringB ns = false := by
  have : (List.range ns.length).all (rOk ns) = false := by
    cases e : (List.range ns.length).all (rOk ns) with
    | false => rfl
    | true =>
      rw [List.all_eq_true] at e
      have := e k (List.mem_range.2 hk)
      rw [h] at this; cases this
  unfold ringB
  rw [this]
  rfl
theorem ringB_all {ns : List ND} (h : ∀ k, k < ns.length → rOk ns k = true) : ringB ns = (((ringI ns).length : Int) == ((liveI ns).length : Int)) := by
  have : (List.range ns.length).all (rOk ns) = true := by
    rw [List.all_eq_true]
    exact fun k hk => h k (List.mem_range.1 hk)
  unfold ringB
  rw [this, Bool.true_and]
theorem place_nat {ns : List ND} {s : Int} (hn : 0 < ns.length) (h : placeB ns s = true) : ∃ i : Nat, s = i ∧ i < ns.length := by
  unfold placeB at h
  rw [Bool.or_eq_true] at h
  rcases h with h | h
  · rw [beq_iff_eq] at h; exact ⟨0, by omega, hn⟩
  · obtain ⟨i, rfl, hi⟩ := thB_nat_iff.1 h
    exact ⟨i, rfl, (thN_iff.1 hi).2.1⟩
theorem PgAt.prev {w : World} {B : Nat} {A : Option Addr} {n c : Nat} {ns : List ND} (h : PgAt w B A n c ns) {i : Nat} (hi : i < n) : ∃ b o, A = some ⟨b, o, none⟩ ∧ b < B ∧ w.cell? ⟨b, o + i * 7 + 6, none⟩ = some (.int .i64 (nAt ns i).prev) := by
  obtain ⟨b, o, d, e, hb, hd, hr, _⟩ := h.node hi
  rw [nAt_of hd]
  exact ⟨b, o, e, hb, hr 6 _ rfl⟩
/-- A node boxed: its cells. -/
theorem box_node (w : World) (d : ND) : Blk (w.alloc (.cells d.cells 42)) w.heap.size 42 d.cells ∧ Below w.heap.size w (w.alloc (.cells d.cells 42)) := ⟨Blk.new _ _ _, bel_box _ _⟩
set_option maxRecDepth 100000 in
set_option maxHeartbeats 1000000 in
theorem pl_bare (d : ND) (w : World) : Calls Try.prog 61 #[.agg d.cells] w (RetB (bareB d) w) := by
  obtain ⟨w1, hw1⟩ : ∃ x, w.alloc (.cells d.cells 42) = x := ⟨_, rfl⟩
  obtain ⟨K, b1⟩ := box_node w d
  rw [hw1] at K b1
  have c3 : w1.cell? ⟨w.heap.size, 3, none⟩ = some (.int .i64 d.level) := K.cell 3
  have c4 : w1.cell? ⟨w.heap.size, 4, none⟩ = some (.slice d.LA d.ln d.lc) := K.cell 4
  have c5 : w1.cell? ⟨w.heap.size, 5, none⟩ = some (.int .i64 d.next) := K.cell 5
  have c6 : w1.cell? ⟨w.heap.size, 6, none⟩ = some (.int .i64 d.prev) := K.cell 6
  have HB := Lib.hid b1
  obtain ⟨r, hr⟩ : ∃ r, bareB d = r := ⟨_, rfl⟩
  have HR := Lib.hid hr
  rw [hr]
  unfold bareB at hr
  clear K b1
  unfold ND.cells IS.v at hw1 ⊢
  cases t1 : (d.next == -1) with
  | false =>
    have e : r = false := by rw [← hr, t1]; rfl
    subst e
    clear hr HR
    go_enter Try.func61, Try.ntmps61
    go_upto_region 1 with fail
    (try rw [hw1])
    clear hw1
    go_wp2_with fail
    go_ret
    exact ⟨rfl, HB.out⟩
  | true =>
    cases t2 : (d.prev == -1) with
    | false =>
      have e : r = false := by rw [← hr, t1, t2]; rfl
      subst e
      clear hr HR
      go_enter Try.func61, Try.ntmps61
      go_upto_region 1 with fail
      (try rw [hw1])
      clear hw1
      go_wp2_with fail
      go_ret
      exact ⟨rfl, HB.out⟩
    | true =>
      cases t3 : (d.level == 0) with
      | false =>
        have e : r = false := by rw [← hr, t1, t2, t3]; rfl
        subst e
        clear hr HR
        go_enter Try.func61, Try.ntmps61
        go_upto_region 1 with fail
        (try rw [hw1])
        clear hw1
        go_wp2_with fail
        go_ret
        exact ⟨rfl, HB.out⟩
      | true =>
        cases t4 : ((d.ln : Int) == 0) with
        | false =>
          have e : r = false := by rw [← hr, t1, t2, t3, t4]; rfl
          subst e
          clear hr HR
          go_enter Try.func61, Try.ntmps61
          go_upto_region 1 with fail
          (try rw [hw1])
          clear hw1
          go_wp2_with fail
          go_ret
          exact ⟨rfl, HB.out⟩
        | true =>
          have e : r = true := by rw [← hr, t1, t2, t3, t4]; rfl
          subst e
          clear hr HR
          go_enter Try.func61, Try.ntmps61
          go_upto_region 1 with fail
          (try rw [hw1])
          clear hw1
          go_wp2_with fail
          go_ret
          exact ⟨rfl, HB.out⟩
set_option maxRecDepth 100000 in
set_option maxHeartbeats 1000000 in
theorem pl_place (A : Option Addr) (n c : Nat) (ns : List ND) (en tp s : Int) (t1 : Nat) (w : World) (hg : PgAt w w.heap.size A n c ns) (hk : Blk w t1 24 (pgL A n c en tp)) :
    Calls Try.prog 62 #[.int .i64 s, .pointer (some ⟨t1, 0, none⟩)] w (RetB (placeB ns s) w) := by
  have LP := plane_load hk
  have HT := Lib.hid (pl_there A n c ns en tp s w hg)
  unfold pgL at LP HT
  clear hg hk
  cases t : (s == 0) with
  | true =>
    have HR : Hid (placeB ns s = true) := by show _ = _; unfold placeB; rw [t]; rfl
    go_enter Try.func62, Try.ntmps62
    go_wp2_with fail
    go_ret
    exact ⟨by rw [HR.out]; rfl, Below.refl _ _⟩
  | false =>
    have HR : Hid (placeB ns s = thB ns s) := by show _ = _; unfold placeB; rw [t]; rfl
    go_enter Try.func62, Try.ntmps62
    go_wp2_with (first | refine wpList_loadG LP _ rfl rfl rfl ?_ | (go_at_call 16; refine HT.out.mono ?_; rintro e w3 ⟨rfl, b3⟩; have HB3 := Lib.hid b3; clear b3))
    go_ret
    exact ⟨by rw [HR.out]; rfl, HB3.out⟩
end Go.Proofs.Ytbpcddimnbjoeaa
