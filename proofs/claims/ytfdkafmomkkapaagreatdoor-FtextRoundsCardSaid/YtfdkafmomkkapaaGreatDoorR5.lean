/- Walks: ftext.Int, ftext.Round at any number. -/
import Derived.Test.YtfdkafmomkkapaaGreatDoorV8
import Derived.Test.YtfdkafmomkkapaaGreatDoorR4
namespace Go.Proofs.YtfdkafmomkkapaaGreatDoor
open Go.RowKit Go.Lib

instance (b : Nat) : Decidable (FinB b) := by unfold FinB; infer_instance
instance (b : Nat) : Decidable (OkI b) := by unfold OkI; infer_instance
/-- what Int hands back. -/
def intR (b : Nat) : Int × Int := if OkI b then (toI b, 0) else (0, 13)
theorem run_trunc {b : Nat} (w : World) (h : isNaNB b = false) : (callFunc 19 #[.float .f64 b]).run Tryz.prog w = .ok (.value (.float .f64 (wholeB .zero b))) w := by
  rw [run_callFunc_extern Tryz.func19 (by kernel_rfl) (by kernel_rfl) (by kernel_rfl) (show Extern.find Tryz.f19 = some (Extern.MathFloor.toIntegral "math.archTrunc" .zero) by kernel_rfl)]
  have hd : (FloatKind.f64.decode b).isNaN = false := by
    rw [← h, ← read_nan]; rfl
  rw [toIntegral_eq, intG_num hd]
  rfl
set_option maxRecDepth 100000 in
theorem trunc_any (b : Nat) (w : World) (h : isNaNB b = false) : Calls Tryz.prog 10 #[.float .f64 b] w fun e w' => e = .returned (.float .f64 (wholeB .zero b)) ∧ w = w' := by
  have hr := fun w => run_trunc w h
  generalize wholeB .zero b = c at *
  go_enter Tryz.func10, Tryz.ntmps10
  go_wp2_with fail
  go_ret
  exact ⟨rfl, rfl⟩
theorem run_toI {b : Nat} (h : OkI b) (w : World) : (convert 22 3 (.float .f64 b)).run Tryz.prog w = .ok (.int .i64 (toI b)) w := by
  have hs := okI_small h
  refine run_convert_float_int w 22 3 .f64 .i64 b (toI b) (by rw [Tryz.underlying22]; rfl) Tryz.underlying3 ?_
  unfold floatToIntVal
  have e : (FloatKind.f64.decode b).toInt .zero = some (toI b) := toInt_fin h.1
  rw [e]
  simp only
  rw [if_pos]
  have e1 : IntKind.i64.min = -9223372036854775808 := by decide
  have e2 : IntKind.i64.max = 9223372036854775807 := by decide
  rw [e1, e2]
  omega
set_option maxRecDepth 100000 in
set_option maxHeartbeats 2000000 in
theorem int_any (b : Nat) (w : World) (hb : b < 18446744073709551616) : Calls Tryz.prog 4 #[.float .f64 b] w fun e w' => e = .returned (.tuple #[.int .i64 (intR b).1, .int .i64 (intR b).2]) ∧ w = w' := by
  rcases int_split hb with ⟨hn, hk, o1, o2⟩ | ⟨hn, hk, o1, o2⟩ | ⟨hn, hk, o1, o2⟩ | ⟨hn, hf, hok, o1, o2⟩
  · have hr : intR b = (0, 13) := if_neg hk
    rw [hr]
    have p1 : (FloatKind.f64.format.order b 14069245235905429504 == some .gt || FloatKind.f64.format.order b 14069245235905429504 == some .eq) = false := by
      rw [show FloatKind.f64.format.order b 14069245235905429504 = none from o1]; rfl
    clear hr hk hn o1 o2
    go_enter Tryz.func4, Tryz.ntmps4
    go_wp2_with fail
    go_ret2
    exact ⟨rfl, rfl⟩
  · have hr : intR b = (0, 13) := if_neg hk
    rw [hr]
    have p1 : (FloatKind.f64.format.order b 14069245235905429504 == some .gt || FloatKind.f64.format.order b 14069245235905429504 == some .eq) = false := by
      rw [show FloatKind.f64.format.order b 14069245235905429504 = some .lt from o1]; rfl
    clear hr hk hn o1 o2
    go_enter Tryz.func4, Tryz.ntmps4
    go_wp2_with fail
    go_ret2
    exact ⟨rfl, rfl⟩
  · have hr : intR b = (0, 13) := if_neg hk
    rw [hr]
    have p1 : (FloatKind.f64.format.order b 14069245235905429504 == some .gt || FloatKind.f64.format.order b 14069245235905429504 == some .eq) = true := by
      rw [show FloatKind.f64.format.order b 14069245235905429504 = some .gt from o1]; rfl
    have p2 : (FloatKind.f64.format.order b 4845873199050653696 == some .lt || FloatKind.f64.format.order b 4845873199050653696 == some .eq) = false := by
      rw [show FloatKind.f64.format.order b 4845873199050653696 = some .gt from o2]; rfl
    clear hr hk hn o1 o2
    go_enter Tryz.func4, Tryz.ntmps4
    go_wp2_with fail
    go_ret2
    exact ⟨rfl, rfl⟩
  · have p1 : (FloatKind.f64.format.order b 14069245235905429504 == some .gt || FloatKind.f64.format.order b 14069245235905429504 == some .eq) = true := by
      rcases o1 with o1 | o1 <;> (rw [show FloatKind.f64.format.order b 14069245235905429504 = _ from o1]; rfl)
    have p2 : (FloatKind.f64.format.order b 4845873199050653696 == some .lt || FloatKind.f64.format.order b 4845873199050653696 == some .eq) = true := by
      rcases o2 with o2 | o2 <;> (rw [show FloatKind.f64.format.order b 4845873199050653696 = _ from o2]; rfl)
    have hi := whole_iff .zero hf
    have ht := Lib.hid (fun w => trunc_any b w hn)
    by_cases hw : IsWhole b
    · have hr : intR b = (toI b, 0) := if_pos (hok.2 hw)
      have hcv := run_toI (hok.2 hw)
      rw [hr]
      rw [decide_eq_true hw] at hi
      have p3 : (FloatKind.f64.format.order b (wholeB .zero b) != some .eq) = false := by
        rw [show FloatKind.f64.format.order b (wholeB .zero b) = some .eq from beq_iff_eq.1 hi]; rfl
      clear hr hf hn o1 o2 hi hok hw
      generalize toI b = n at *
      generalize wholeB .zero b = c at *
      go_enter Tryz.func4, Tryz.ntmps4
      go_wp2_with fail
      refine (ht.out w).mono ?_
      rintro e w1 ⟨rfl, rfl⟩
      go_wp2_with fail
      go_ret2
      exact ⟨rfl, rfl⟩
    · have hr : intR b = (0, 13) := if_neg (fun h => hw (hok.1 h))
      rw [hr]
      rw [decide_eq_false hw] at hi
      have p3 : (FloatKind.f64.format.order b (wholeB .zero b) != some .eq) = true := bne_iff_ne.2 (beq_eq_false_iff_ne.1 hi)
      clear hr hf hn o1 o2 hi hok hw
      generalize wholeB .zero b = c at *
      go_enter Tryz.func4, Tryz.ntmps4
      go_wp2_with fail
      refine (ht.out w).mono ?_
      rintro e w1 ⟨rfl, rfl⟩
      go_wp2_with fail
      go_ret2
      exact ⟨rfl, rfl⟩

theorem nan_quiet (s : Bool) (t : Nat) : isNaNB (FloatKind.f64.encode (.nan s (FloatKind.f64.format.quiet t))) = true := by
  show isNaNB (Ieee.double.word s (9218868437227405312 + (t ||| 2251799813685248) % 4503599627370496)) = true
  have h1 : 2251799813685248 ≤ (t ||| 2251799813685248) % 4503599627370496 := by
    have := Nat.or_mod_two_pow (a := t) (b := 2251799813685248) (n := 52)
    rw [show (2 : Nat) ^ 52 = 4503599627370496 by decide] at this
    rw [this]
    exact Nat.le_trans (by decide) Nat.right_le_or
  have h2 : (t ||| 2251799813685248) % 4503599627370496 < 4503599627370496 := Nat.mod_lt _ (by decide)
  generalize (t ||| 2251799813685248) % 4503599627370496 = q at *
  unfold isNaNB
  rw [mag_word (by omega)]
  exact decide_eq_true (by omega)
theorem run_round_nan {b : Nat} (w : World) (h : isNaNB b = true) : ∃ c w', isNaNB c = true ∧ Below w.heap.size w w' ∧ (callFunc 15 #[.float .f64 b]).run Tryz.prog w = .ok (.value (.float .f64 c)) w' := by
  rw [run_callFunc_extern Tryz.func15 (by kernel_rfl) (by kernel_rfl) (by kernel_rfl) (show Extern.find Tryz.f15 = some (Extern.MathFloor.toIntegral "math.RoundToEven" .even) by kernel_rfl)]
  rw [toIntegral_eq]
  have hd : (FloatKind.f64.decode b).isNaN = true := by
    rw [← h, ← read_nan]; rfl
  cases hx : FloatKind.f64.decode b with
  | number s m e => rw [hx] at hd; cases hd
  | infinity s => rw [hx] at hd; cases hd
  | nan s t =>
    unfold intG
    simp only
    by_cases hq : FloatKind.f64.format.quiet t = t
    · rw [if_pos hq]
      exact ⟨b, w, h, Below.refl _ _, rfl⟩
    · rw [if_neg hq]
      refine ⟨if ((Question.extern "math.Floor,Ceil,Trunc,RoundToEven.signallingNaN kept" 2).cut (w.tape w.drawn (.extern "math.Floor,Ceil,Trunc,RoundToEven.signallingNaN kept" 2)) == 1) = true then b else FloatKind.f64.encode (.nan s (FloatKind.f64.format.quiet t)), w.drew, ?_, below_drewN (Below.refl _ _) 1, ?_⟩
      · split
        · exact h
        · exact nan_quiet s t
      · rfl
set_option maxRecDepth 100000 in
set_option maxHeartbeats 2000000 in
theorem round_any (b : Nat) (w : World) (hb : b < 18446744073709551616) : Calls Tryz.prog 7 #[.float .f64 b] w fun e w' => e = .returned (.float .f64 (rndF b)) ∧ Below w.heap.size w w' := by
  cases hn : isNaNB b with
  | true =>
    obtain ⟨c, w1, hc, hb1, hr⟩ := run_round_nan w hn
    have hr1 : rndF b = nanB := if_pos hn
    have hc1 : canB c = nanB := if_pos hc
    have hc2 : canB nanB = nanB := by decide +kernel
    rw [hr1]
    clear hn hr1 hc
    generalize nanB = q at *
    go_enter Tryz.func7, Tryz.ntmps7
    go_wp2_with fail
    refine (fbits_any _ w1).mono ?_
    rintro e w2 ⟨rfl, rfl⟩
    rw [hc1]
    go_wp2_with fail
    refine (fromBits_any q w1).mono ?_
    rintro e w2 ⟨rfl, rfl⟩
    rw [hc2]
    go_wp2_with fail
    go_ret
    exact ⟨rfl, hb1⟩
  | false =>
    have hr := fun w => run_round w hn
    have hr1 : rndF b = rndB b := by unfold rndF; rw [hn, if_neg (by decide)]; rfl
    have hc2 : canB (rndB b) = rndB b := by rw [← hr1]; exact canB_self (rndF_can hb)
    rw [hr1]
    clear hn hr1
    generalize rndB b = q at *
    go_enter Tryz.func7, Tryz.ntmps7
    go_wp2_with fail
    refine (fbits_any _ w).mono ?_
    rintro e w2 ⟨rfl, rfl⟩
    rw [hc2]
    go_wp2_with fail
    refine (fromBits_any q w).mono ?_
    rintro e w2 ⟨rfl, rfl⟩
    rw [hc2]
    go_wp2_with fail
    go_ret
    exact ⟨rfl, Below.refl _ _⟩
end Go.Proofs.YtfdkafmomkkapaaGreatDoor
