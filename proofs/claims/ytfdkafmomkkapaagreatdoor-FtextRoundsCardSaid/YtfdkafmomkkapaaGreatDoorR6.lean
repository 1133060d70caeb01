/- Walks: the reference's Int and Round at any number; law FtextRounds. -/
import Derived.Test.YtfdkafmomkkapaaGreatDoorR5
namespace Go.Proofs.YtfdkafmomkkapaaGreatDoor
open Go.RowKit Go.Lib

theorem whole_iff' (way : Ieee.Toward) {b : Nat} (h : FinB b) : (Ieee.double.order (wholeB way b) b == some .eq) = decide (IsWhole b) := by
  rw [← whole_iff way h, order_fin h (whole_fin way h).1, order_fin (whole_fin way h).1 h, Bool.eq_iff_iff, beq_iff_eq, beq_iff_eq, Option.some.injEq, Option.some.injEq, Int.compare_eq_eq, Int.compare_eq_eq]
  exact ⟨Eq.symm, Eq.symm⟩
theorem run_floor {b : Nat} (w : World) (h : isNaNB b = false) : (callFunc 21 #[.float .f64 b]).run Tryz.prog w = .ok (.value (.float .f64 (wholeB .down b))) w := by
  rw [run_callFunc_extern Tryz.func21 (by kernel_rfl) (by kernel_rfl) (by kernel_rfl) (show Extern.find Tryz.f21 = some (Extern.MathFloor.toIntegral "math.archFloor" .down) by kernel_rfl)]
  have hd : (FloatKind.f64.decode b).isNaN = false := by
    rw [← h, ← read_nan]; rfl
  rw [toIntegral_eq, intG_num hd]
  rfl
set_option maxRecDepth 100000 in
theorem floor_any (b : Nat) (w : World) (h : isNaNB b = false) : Calls Tryz.prog 11 #[.float .f64 b] w fun e w' => e = .returned (.float .f64 (wholeB .down b)) ∧ w = w' := by
  have hr := fun w => run_floor w h
  generalize wholeB .down b = c at *
  go_enter Tryz.func11, Tryz.ntmps11
  go_wp2_with fail
  go_ret
  exact ⟨rfl, rfl⟩
set_option maxRecDepth 100000 in
set_option maxHeartbeats 2000000 in
theorem rint_any (b : Nat) (w : World) (hb : b < 18446744073709551616) : Calls Tryz.prog 5 #[.float .f64 b] w fun e w' => e = .returned (.tuple #[.int .i64 (intR b).1, .int .i64 (intR b).2]) ∧ w = w' := by
  have hs := order_fmt b
  rcases int_split hb with ⟨hn, hk, o1, o2⟩ | ⟨hn, hk, o1, o2⟩ | ⟨hn, hk, o1, o2⟩ | ⟨hn, hf, hok, o1, o2⟩
  · have hr : intR b = (0, 13) := if_neg hk
    rw [hr]
    rw [hn] at hs
    clear hr hk hn o1 o2
    go_enter Tryz.func5, Tryz.ntmps5
    go_wp2_with fail
    go_ret2
    exact ⟨rfl, rfl⟩
  · have hr : intR b = (0, 13) := if_neg hk
    rw [hr]
    rw [hn] at hs
    have p1 : (FloatKind.f64.format.order b 14069245235905429504 == some .lt) = true := by
      rw [show FloatKind.f64.format.order b 14069245235905429504 = some .lt from o1]; rfl
    clear hr hk hn o1 o2
    go_enter Tryz.func5, Tryz.ntmps5
    go_wp2_with fail
    go_ret2
    exact ⟨rfl, rfl⟩
  · have hr : intR b = (0, 13) := if_neg hk
    rw [hr]
    rw [hn] at hs
    have p1 : (FloatKind.f64.format.order b 14069245235905429504 == some .lt) = false := by
      rw [show FloatKind.f64.format.order b 14069245235905429504 = some .gt from o1]; rfl
    have p2 : (FloatKind.f64.format.order b 4845873199050653696 == some .gt) = true := by
      rw [show FloatKind.f64.format.order b 4845873199050653696 = some .gt from o2]; rfl
    clear hr hk hn o1 o2
    go_enter Tryz.func5, Tryz.ntmps5
    go_wp2_with fail
    go_ret2
    exact ⟨rfl, rfl⟩
  · rw [hn] at hs
    have p1 : (FloatKind.f64.format.order b 14069245235905429504 == some .lt) = false := by
      rcases o1 with o1 | o1 <;> (rw [show FloatKind.f64.format.order b 14069245235905429504 = _ from o1]; rfl)
    have p2 : (FloatKind.f64.format.order b 4845873199050653696 == some .gt) = false := by
      rcases o2 with o2 | o2 <;> (rw [show FloatKind.f64.format.order b 4845873199050653696 = _ from o2]; rfl)
    have hi := whole_iff' .down hf
    have ht := Lib.hid (fun w => floor_any b w hn)
    by_cases hw : IsWhole b
    · have hr : intR b = (toI b, 0) := if_pos (hok.2 hw)
      have hcv := run_toI (hok.2 hw)
      rw [hr]
      rw [decide_eq_true hw] at hi
      have p3 : (FloatKind.f64.format.order (wholeB .down b) b != some .eq) = false := by
        rw [show FloatKind.f64.format.order (wholeB .down b) b = some .eq from beq_iff_eq.1 hi]; rfl
      clear hr hf hn o1 o2 hi hok hw
      generalize toI b = n at *
      generalize wholeB .down b = c at *
      go_enter Tryz.func5, Tryz.ntmps5
      go_wp2_with fail
      refine (ht.out w).mono ?_
      rintro e w1 ⟨rfl, rfl⟩
      go_wp2_with fail
      go_ret2
      exact ⟨rfl, rfl⟩
    · have hr : intR b = (0, 13) := if_neg (fun h => hw (hok.1 h))
      rw [hr]
      rw [decide_eq_false hw] at hi
      have p3 : (FloatKind.f64.format.order (wholeB .down b) b != some .eq) = true := bne_iff_ne.2 (beq_eq_false_iff_ne.1 hi)
      clear hr hf hn o1 o2 hi hok hw
      generalize wholeB .down b = c at *
      go_enter Tryz.func5, Tryz.ntmps5
      go_wp2_with fail
      refine (ht.out w).mono ?_
      rintro e w1 ⟨rfl, rfl⟩
      go_wp2_with fail
      go_ret2
      exact ⟨rfl, rfl⟩
set_option maxRecDepth 100000 in
theorem rround_any (b : Nat) (w : World) (_hb : b < 18446744073709551616) : Calls Tryz.prog 8 #[.float .f64 b] w fun e w' => e = .returned (.float .f64 (rndF b)) ∧ w = w' := by
  have hs := order_fmt b
  cases hn : isNaNB b with
  | true =>
    rw [hn] at hs
    have hr1 : rndF b = nanB := if_pos hn
    rw [hr1]
    clear hn hr1
    go_enter Tryz.func8, Tryz.ntmps8
    go_wp2_with fail
    refine (rfrom_any 9221120237041090560 w (by decide)).mono ?_
    rintro e w2 ⟨rfl, rfl⟩
    go_wp2_with fail
    go_ret
    exact ⟨rfl, rfl⟩
  | false =>
    rw [hn] at hs
    have hr := fun w => run_round w hn
    have hr1 : rndF b = rndB b := by unfold rndF; rw [hn, if_neg (by decide)]; rfl
    rw [hr1]
    clear hn hr1
    generalize rndB b = q at *
    go_enter Tryz.func8, Tryz.ntmps8
    go_wp2_with fail
    go_ret
    exact ⟨rfl, rfl⟩
theorem same_one (b : Nat) (w : World) : Calls Tryz.prog 6 #[.float .f64 b, .float .f64 b] w fun e w' => e = .returned (.bool true) ∧ w = w' :=
  (same_any' b b w).mono fun e w' ⟨he, hw⟩ => ⟨by rw [he]; simp, hw⟩
set_option maxRecDepth 100000 in
set_option maxHeartbeats 2000000 in
theorem law3_any (x : Nat) (w : World) (hG : Gz w) (hx : x < 18446744073709551616) : Calls Tryz.prog 3 #[.float .f64 x] w fun e w' => e = .returned (.bool true) ∧ Below w.heap.size w w' := by
  have h1 := Lib.hid (fun w => int_any x w hx)
  have h2 := Lib.hid (fun w => rint_any x w hx)
  have h3 := Lib.hid (fun w => round_any x w hx)
  have h4 := Lib.hid (fun w => rround_any x w hx)
  generalize intR x = r at *
  obtain ⟨m, c⟩ := r
  generalize rndF x = q at *
  go_enter Tryz.func3, Tryz.ntmps3
  go_wp2_with fail
  refine (h1.out w).mono ?_
  rintro e w1 ⟨rfl, rfl⟩
  go_wp2_with fail
  refine (h2.out w).mono ?_
  rintro e w1 ⟨rfl, rfl⟩
  go_wp2_with fail
  refine (h3.out w).mono ?_
  rintro e w1 ⟨rfl, hb1⟩
  go_wp2_with fail
  refine (h4.out w1).mono ?_
  rintro e w2 ⟨rfl, rfl⟩
  go_wp2_with fail
  refine (same_one q w1).mono ?_
  rintro e w2 ⟨rfl, rfl⟩
  go_wp2_with fail
  refine (awake3_any w1 (hG.on hb1)).mono ?_
  rintro e w9 ⟨rfl, hb9⟩
  go_wp2_with fail
  go_ret
  exact ⟨rfl, below_on hb9 hb1 (Nat.le_refl _)⟩
end Go.Proofs.YtfdkafmomkkapaaGreatDoor
