/- Walks: how many bytes puts have. -/
import Derived.Test.YtfdkafmomkkapaaDoorProg
import Derived.Test.YtfdkafmomkkapaaDoorTk2
import Derived.WalkLawsBesides
namespace Go.Proofs.YtfdkafmomkkapaaDoor
open Go.RowKit Go.Lib

set_option maxRecDepth 100000 in
set_option maxHeartbeats 400000 in
theorem sum_one (n x : Int) (b off c : Nat) (w : World) (h0 : 0 ≤ n) (h1 : n ≤ 1099511627776) (hx0 : 0 ≤ x) (hx1 : x ≤ 9223372036854775807) (hc : w.cell? ⟨b, off, none⟩ = some (.int .i64 x)) :
    Calls Tryd.prog 37 #[.int .i64 n, .slice (some ⟨b, off, none⟩) 1 c] w fun e w' => e = .returned (.int .i64 (sum1 n x)) ∧ w = w' := by
  by_cases hb : 1099511627776 - n < x
  · have e : sum1 n x = 1099511627776 := by unfold sum1; rw [if_pos (Or.inr hb)]
    rw [e]
    clear e
    go_enter Tryd.func37, Tryd.ntmps37
    go_wp2
    refine wp_loop_rounds 1 ?_
    rw [rounds_succ]
    go_wp2
    go_ret
    exact ⟨rfl, rfl⟩
  · have e : sum1 n x = n + x := by unfold sum1; rw [if_neg (by omega)]
    rw [e]
    clear e
    go_enter Tryd.func37, Tryd.ntmps37
    go_wp2
    refine wp_loop_rounds 2 ?_
    rw [rounds_succ]
    go_wp2
    rw [rounds_succ]
    go_wp2
    go_ret
    exact ⟨rfl, rfl⟩
/-- a number that Puts hands back: right where it is at most top. -/
def BulkR (w : World) (top : Int) (l : List (Int × List UInt8)) (e : Ending) (w' : World) : Prop :=
  ∃ r : Int, e = .returned (.int .i64 r) ∧ 0 ≤ r ∧ (r ≤ top → r = (bulk l : Int)) ∧ Below w.heap.size w w'

theorem sum1_bd {n x : Int} (h0 : 0 ≤ n) (h1 : n ≤ 1099511627776) (hx0 : 0 ≤ x) : 0 ≤ sum1 n x ∧ sum1 n x ≤ 1099511627776 := by unfold sum1; split <;> omega
theorem sum1_small {n x top : Int} (h1 : n ≤ 1099511627776) (ht : top < 1099511627776) (h : sum1 n x ≤ top) : sum1 n x = n + x := by unfold sum1 at *; split at h <;> omega

set_option maxRecDepth 100000 in
set_option maxHeartbeats 400000 in
theorem puts_one (l : List (Int × List UInt8)) (b off c : Nat) (top : Int) (w : World) (_ht0 : 0 ≤ top) (ht : top < 1099511627776) (hm : l.length ≤ maxLen)
    (hP : ∀ j (h : j < l.length), Put1 w b (off + j * 2) l[j]) :
    Calls Tryd.prog 14 #[.slice (some ⟨b, off, none⟩) l.length c, .int .i64 top] w (BulkR w top l) := by
  have hm' : l.length ≤ 9223372036854775807 := hm
  clear hm
  go_enter Tryd.func14, Tryd.ntmps14
  go_wp2_with (go_at_call 37; refine (sum_one 0 (l.length : Int) _ _ _ _ (by omega) (by omega) (by omega) (by omega) (by simp)).mono ?_; rintro e w1 ⟨rfl, rfl⟩)
  have hs0 := sum1_bd (n := 0) (x := (l.length : Int)) (by omega) (by omega) (by omega)
  have hs1 := fun h => sum1_small (n := 0) (x := (l.length : Int)) (top := top) (by omega) ht h
  generalize sum1 0 (l.length : Int) = n0 at *
  go_loopw [5, 6] (fun a i wr => ∃ (n : Int) (k : Nat), k ≤ l.length ∧ a = .int .i64 n ∧ i = .int .i64 k ∧ 0 ≤ n ∧ n ≤ 1099511627776 ∧ (n ≤ top → n = (bulkTo l k : Int)) ∧ Below w.heap.size w wr) (fun _ i _ => l.length - (intOf i).toNat)
  case atStart => exact ⟨n0, 0, by omega, rfl, rfl, hs0.1, hs0.2, fun h => by rw [hs1 h]; simp [bulkTo], Below.of_alloc _ _⟩
  case round =>
    obtain ⟨n, k, hk, rfl, rfl, hn0, hn1, hn2, hbel⟩ := hrel
    have HN := Lib.hid hn2
    clear hn2
    by_cases hlt : k < l.length
    · by_cases hle : n ≤ top
      · obtain ⟨_, _, _, da, dc, hc, _, hdl, _⟩ := hP k hlt
        have hc' := (hbel.cell (p := ⟨b, off + k * 2 + 1, none⟩) (by exact World.block_lt_of_cell? _ _ hc)).trans hc
        have hdl' : l[k].2.length ≤ 9223372036854775807 := hdl
        clear hc hdl
        go_wp2_with (go_at_call 37; refine (sum_one n (l[k].2.length : Int) _ _ _ _ (by omega) (by omega) (by omega) (by omega) (by simp)).mono ?_; rintro e w1 ⟨rfl, rfl⟩)
        have hs0 := sum1_bd (n := n) (x := (l[k].2.length : Int)) hn0 hn1 (by omega)
        have hs1 : sum1 n (l[k].2.length : Int) ≤ top → sum1 n (l[k].2.length : Int) = (bulkTo l (k + 1) : Int) := fun h => by
          rw [sum1_small hn1 ht h, HN.out hle, bulkTo_succ _ _ hlt]; omega
        generalize sum1 n (l[k].2.length : Int) = n2 at *
        have HS := Lib.hid hs1
        clear hs1
        go_roundw
        case rel => exact ⟨n2, k + 1, by omega, rfl, by go_num, hs0.1, hs0.2, HS.out, hbel.alloc hbel.size _⟩
        case measure => simp [intOf]; omega
      · go_wp2
        go_ret
        exact ⟨n, rfl, hn0, fun h => by omega, hbel⟩
    · obtain rfl : k = l.length := by omega
      go_wp2
      all_goals
        go_ret
        exact ⟨n, rfl, hn0, fun h => by rw [HN.out h, bulkTo_all], hbel⟩

theorem bulk_big (l : List (Int × List UInt8)) : l.length ≤ bulk l := by unfold bulk; omega

set_option maxRecDepth 100000 in
set_option maxHeartbeats 400000 in
theorem puts_none (a : Option Addr) (c : Nat) (top : Int) (w : World) :
    Calls Tryd.prog 14 #[.slice a 0 c, .int .i64 top] w (BulkR w top []) := by
  have h0 : sum1 0 0 = 0 := rfl
  go_enter Tryd.func14, Tryd.ntmps14
  go_wp2_with (go_at_call 37; refine (sum_one 0 0 _ _ _ _ (by omega) (by omega) (by omega) (by omega) (by simp)).mono ?_; rintro e w1 ⟨rfl, rfl⟩)
  refine wp_loop_rounds 1 ?_
  rw [rounds_succ]
  go_wp2
  go_ret
  exact ⟨0, rfl, by omega, fun _ => rfl, Below.of_alloc _ _⟩

/-- scarpalike.Puts. -/
theorem puts_any (a : Option Addr) (m c : Nat) (l : List (Int × List UInt8)) (top : Int) (w : World) (hm : l.length = m) (hP : Ps w a l) (ht0 : 0 ≤ top) (ht : top < 1099511627776) (hmx : m ≤ maxLen) :
    Calls Tryd.prog 14 #[.slice a m c, .int .i64 top] w (BulkR w top l) := by
  subst hm
  rcases hP with rfl | ⟨b, off, rfl, hc⟩
  · exact puts_none a c top w
  · exact puts_one l b off c top w ht0 ht hmx hc

end Go.Proofs.YtfdkafmomkkapaaDoor
