/- Walks: a number's bits, the number of bits, are numbers the same? -/
import Derived.Test.YtfdkafmomkkapaaGreatDoorU0
import Derived.Test.YtfdkafmomkkapaaGreatDoorTk2
import Derived.Test.YtfdkafmomkkapaaGreatDoorProg
import Derived.WalkLawsBesides
import Derived.Laws.FloatArith
import Derived.Laws.Externs
import Derived.Laws.BitsAllLaws
namespace Go.Proofs.YtfdkafmomkkapaaGreatDoor
open Go.RowKit Go.Lib

theorem order_fmt (b : Nat) : (FloatKind.f64.format.order b b != some .eq) = isNaNB b := neq_self b
theorem run_bits (b : Nat) (w : World) : (callFunc 23 #[.float .f64 b]).run Tryz.prog w = .ok (.value (.int .u64 b)) w := by
  rw [run_callFunc_extern Tryz.func23 (by kernel_rfl) (by kernel_rfl) (by kernel_rfl) (show Extern.find Tryz.f23 = some Extern.MathFloatBits.float64bits by kernel_rfl)]
  rfl
theorem run_from (n : Int) (w : World) : (callFunc 24 #[.int .u64 n]).run Tryz.prog w = .ok (.value (.float .f64 n.toNat)) w := by
  rw [run_callFunc_extern Tryz.func24 (by kernel_rfl) (by kernel_rfl) (by kernel_rfl) (show Extern.find Tryz.f24 = some Extern.MathFloatBits.float64frombits by kernel_rfl)]
  rfl

set_option maxRecDepth 100000 in
theorem fbits_any (b : Nat) (w : World) : Calls Tryz.prog 14 #[.float .f64 b] w fun e w' => e = .returned (.int .u64 (canB b)) ∧ w = w' := by
  have h := order_fmt b
  have hr := run_bits b
  cases hn : isNaNB b with
  | true =>
    rw [hn] at h
    have hc : canB b = nanB := if_pos hn
    rw [hc]
    clear hc hn hr
    go_enter Tryz.func14, Tryz.ntmps14
    go_wp2
    go_ret
    exact ⟨rfl, rfl⟩
  | false =>
    rw [hn] at h
    have hc : canB b = b := if_neg (by rw [hn]; decide)
    rw [hc]
    clear hc hn
    go_enter Tryz.func14, Tryz.ntmps14
    go_wp2
    go_ret
    exact ⟨rfl, rfl⟩

set_option maxRecDepth 100000 in
theorem rbits_any (b : Nat) (w : World) : Calls Tryz.prog 12 #[.float .f64 b] w fun e w' => e = .returned (.int .u64 (canB b)) ∧ w = w' := by
  have h := order_fmt b
  have hr := run_bits b
  cases hn : isNaNB b with
  | true =>
    rw [hn] at h
    have hc : canB b = nanB := if_pos hn
    rw [hc]
    clear hc hn hr
    go_enter Tryz.func12, Tryz.ntmps12
    go_wp2
    go_ret
    exact ⟨rfl, rfl⟩
  | false =>
    rw [hn] at h
    have hc : canB b = b := if_neg (by rw [hn]; decide)
    rw [hc]
    clear hc hn
    go_enter Tryz.func12, Tryz.ntmps12
    go_wp2
    go_ret
    exact ⟨rfl, rfl⟩

set_option maxRecDepth 100000 in
theorem fromBits_any (n : Nat) (w : World) : Calls Tryz.prog 13 #[.int .u64 n] w fun e w' => e = .returned (.float .f64 (canB n)) ∧ w = w' := by
  have hr := fun n : Int => run_from n
  go_enter Tryz.func13, Tryz.ntmps13
  go_wp2_with (go_at_call 14; refine (fbits_any _ _).mono ?_; rintro e w' ⟨rfl, rfl⟩)
  go_ret
  exact ⟨rfl, rfl⟩

theorem same_any' (a b : Nat) (w : World) : Calls Tryz.prog 6 #[.float .f64 a, .float .f64 b] w fun e w' => e = .returned (.bool ((canB a : Int) == (canB b : Int))) ∧ w = w' := by
  go_enter Tryz.func6, Tryz.ntmps6
  go_wp2_with fail
  refine (rbits_any a w).mono ?_
  rintro e w' ⟨rfl, rfl⟩
  go_wp2_with fail
  refine (rbits_any b w).mono ?_
  rintro e w' ⟨rfl, rfl⟩
  go_wp2_with fail
  go_ret
  exact ⟨rfl, rfl⟩

theorem andNot_sign {b : Nat} (h : b < 18446744073709551616) : bits .andNot .u64 (b : Int) 9223372036854775808 = ((magB b : Nat) : Int) := by
  have := u64_andNot_nat b 9223372036854775808 h (by decide)
  have e : b &&& (18446744073709551615 - 9223372036854775808) = magB b := by
    have := Nat.and_two_pow_sub_one_eq_mod b 63
    unfold magB
    exact this
  rw [e] at this
  exact this

theorem can_nan {b : Nat} (h : b < 18446744073709551616) (h1 : 9218868437227405312 < bits .andNot .u64 (b : Int) 9223372036854775808) : canB b = nanB := by
  rw [andNot_sign h] at h1
  exact if_pos (decide_eq_true (by omega))
theorem can_not {b : Nat} (h : b < 18446744073709551616) (h1 : bits .andNot .u64 (b : Int) 9223372036854775808 ≤ 9218868437227405312) : canB b = b := by
  rw [andNot_sign h] at h1
  refine if_neg ?_
  unfold isNaNB
  rw [decide_eq_true_iff]
  omega
set_option maxRecDepth 100000 in
theorem rfrom_any (b : Nat) (w : World) (h : b < 18446744073709551616) : Calls Tryz.prog 16 #[.int .u64 b] w fun e w' => e = .returned (.float .f64 (canB b)) ∧ w = w' := by
  have hr := fun n : Int => run_from n
  have HB := Lib.hid h
  clear h
  go_enter Tryz.func16, Tryz.ntmps16
  go_wp2
  · rw [can_nan HB.out (by assumption)]
    go_ret
    exact ⟨rfl, rfl⟩
  · rw [can_not HB.out (by assumption)]
    go_ret
    exact ⟨rfl, rfl⟩
end Go.Proofs.YtfdkafmomkkapaaGreatDoor
