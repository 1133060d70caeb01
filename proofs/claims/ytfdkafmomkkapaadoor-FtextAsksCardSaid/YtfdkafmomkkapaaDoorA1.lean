/- Walks of small functions: digits, words. -/
import Derived.Test.YtfdkafmomkkapaaDoorProg
import Derived.Test.YtfdkafmomkkapaaDoorTk
import Derived.WalkKit
import Derived.WalkSpells
import Derived.WalkLawsBesides
namespace Go.Proofs.YtfdkafmomkkapaaDoor
open Go.RowKit

set_option maxHeartbeats 400000 in
theorem digit_any (c : Int) (h0 : 0 ≤ c) (h1 : c < 256) (w : World) :
    Calls Tryd.prog 53 #[.int .u8 c] w fun e w' => e = .returned (.int .i64 (dig c)) ∧ w = w' := by
  go_enter Tryd.func53, Tryd.ntmps53
  go_wp2
  all_goals
    go_ret
    exact ⟨ret_int (by unfold dig; split <;> (try split) <;> omega), rfl⟩

set_option maxHeartbeats 400000 in
theorem hexOf_any (c : Int) (h0 : 0 ≤ c) (h1 : c < 256) (w : World) :
    Calls Tryd.prog 57 #[.int .u8 c] w fun e w' => e = .returned (.int .i64 (dig c)) ∧ w = w' := by
  go_enter Tryd.func57, Tryd.ntmps57
  go_wp2
  all_goals
    go_ret
    exact ⟨ret_int (by unfold dig; split <;> (try split) <;> omega), rfl⟩

theorem ret_str {a b : List UInt8} (h : a = b) : Ending.returned (.string ⟨a.toArray⟩) = .returned (.string ⟨b.toArray⟩) := by rw [h]

theorem wordL_none {k : Int} (h : k < 1 ∨ 6 ≤ k) : wordL k = [] := by
  unfold wordL
  repeat (rw [if_neg (by omega)])

set_option maxHeartbeats 400000 in
theorem word_any (k : Int) (w : World) :
    Calls Tryd.prog 42 #[.int .i64 k] w fun e w' => e = .returned (.string ⟨(wordL k).toArray⟩) ∧ w = w' := by
  by_cases h : 1 ≤ k ∧ k ≤ 5
  · obtain rfl | rfl | rfl | rfl | rfl : k = 1 ∨ k = 2 ∨ k = 3 ∨ k = 4 ∨ k = 5 := by omega
    all_goals
      go_enter Tryd.func42, Tryd.ntmps42
      go_wp2
      go_ret
      exact ⟨rfl, rfl⟩
  · have hn := wordL_none (k := k) (by omega)
    rw [hn]
    clear hn
    go_enter Tryd.func42, Tryd.ntmps42
    go_wp2
    go_ret
    exact ⟨rfl, rfl⟩

set_option maxHeartbeats 400000 in
theorem rword_any (k : Int) (w : World) :
    Calls Tryd.prog 46 #[.int .i64 k] w fun e w' => e = .returned (.string ⟨(wordL k).toArray⟩) ∧ Below w.heap.size w w' := by
  by_cases h : 0 ≤ k ∧ k ≤ 5
  · obtain rfl | rfl | rfl | rfl | rfl | rfl : k = 0 ∨ k = 1 ∨ k = 2 ∨ k = 3 ∨ k = 4 ∨ k = 5 := by omega
    all_goals
      go_enter Tryd.func46, Tryd.ntmps46
      go_wp2
      go_ret
      exact ⟨rfl, (Below.refl _ _).alloc (Nat.le_refl _) _⟩
  · have hn := wordL_none (k := k) (by omega)
    rw [hn]
    clear hn
    by_cases h0 : k < 0
    all_goals
      go_enter Tryd.func46, Tryd.ntmps46
      go_wp2
      go_ret
      exact ⟨rfl, (Below.refl _ _).alloc (Nat.le_refl _) _⟩
end Go.Proofs.YtfdkafmomkkapaaDoor
