/- Walks: law 13 (FtextWhole). -/
import Derived.Test.YtfdkafmomkkapaaDoorR5
namespace Go.Proofs.YtfdkafmomkkapaaDoor
open Go.RowKit Go.Lib

theorem run_fromI (n : Int) (w : World) : (convert 3 50 (.int .i64 n)).run Tryd.prog w = .ok (.float .f64 (intB n)) w :=
  run_convert_int_float w 3 50 .i64 .f64 n (by rw [Tryd.underlying3]; rfl) Tryd.underlying50
theorem intR_int {n : Int} (h : n.natAbs ≤ 9007199254740992) : intR (intB n) = (n, 0) := by
  have hf := int_rv h
  have ht := T1_posI
  have hk : OkI (intB n) := by
    refine ⟨hf.1, int_whole h, ?_, ?_⟩
    · rw [hf.2.1, Int.natCast_mul]
      intro g
      have := Int.lt_of_mul_lt_mul_right (a := (T1 : Int)) (b := n) (c := -9007199254740992) (by rw [Int.neg_mul]; exact g) (Int.le_of_lt ht)
      omega
    · rw [hf.2.1, Int.natCast_mul]
      intro g
      have := Int.lt_of_mul_lt_mul_right (a := (T1 : Int)) (b := 9007199254740992) (c := n) g (Int.le_of_lt ht)
      omega
  unfold intR
  rw [if_pos hk, int_back h]
theorem same_self (b : Nat) (w : World) : Calls Tryd.prog 33 #[.float .f64 b, .float .f64 b] w fun e w' => e = .returned (.bool true) ∧ w = w' :=
  (same_any' b b w).mono fun e w' ⟨he, hw⟩ => ⟨by rw [he]; simp, hw⟩
theorem run_sub {a b d : Nat} (h : Ieee.double.sub a b = some d) (w : World) : (binOp .sub 50 (.float .f64 a) (.float .f64 b)).run Tryd.prog w = .ok (.float .f64 d) w :=
  run_float_arith w .sub 50 .f64 a b d h
theorem run_quo {a b d : Nat} (h : Ieee.double.div a b = some d) (w : World) : (binOp .quo 50 (.float .f64 a) (.float .f64 b)).run Tryd.prog w = .ok (.float .f64 d) w :=
  run_float_arith w .quo 50 .f64 a b d h
theorem run_sub_inf {b : Nat} (h : Ieee.double.sub b b = none) (w : World) : ∃ c, isNaNB c = true ∧ (binOp .sub 50 (.float .f64 b) (.float .f64 b)).run Tryd.prog w = .ok (.float .f64 c) w.drew := by
  refine ⟨(Question.nanBits .f64 b b).cut (w.tape w.drawn (.nanBits .f64 b b)), ?_, ?_⟩
  · show isNaNB ((w.tape w.drawn (.nanBits .f64 b b) % 2) * 9223372036854775808 + 9218868437227405312 + 1 + (w.tape w.drawn (.nanBits .f64 b b) / 2) % 4503599627370495) = true
    have h1 : w.tape w.drawn (.nanBits .f64 b b) % 2 < 2 := Nat.mod_lt _ (by decide)
    have h2 : (w.tape w.drawn (.nanBits .f64 b b) / 2) % 4503599627370495 < 4503599627370495 := Nat.mod_lt _ (by decide)
    generalize w.tape w.drawn (.nanBits .f64 b b) % 2 = u at *
    generalize (w.tape w.drawn (.nanBits .f64 b b) / 2) % 4503599627370495 = q at *
    unfold isNaNB magB
    refine decide_eq_true ?_
    rcases (by omega : u = 0 ∨ u = 1) with rfl | rfl <;> omega
  · have h' : FloatKind.f64.format.sub b b = none := h
    simp [binOp, Op.floatArith, h', Question.forced]
theorem below_drew {w : World} : Below w.heap.size w w.drew := below_drewN (Below.refl _ _) 1

set_option maxRecDepth 100000 in
set_option maxHeartbeats 4000000 in
theorem law13_far (n : Int) (x : Nat) (w : World) (hG : Gz w) (hn : n < -9007199254740992 ∨ 9007199254740992 < n) : Calls Tryd.prog 13 #[.int .i64 n, .float .f64 x] w fun e w' => e = .returned (.bool true) ∧ Below w.heap.size w w' := by
  by_cases h1 : n < -9007199254740992
  · clear hn
    go_enter Tryd.func13, Tryd.ntmps13
    go_wp2_with fail
    refine (awake3_any w hG).mono ?_
    rintro e w1 ⟨rfl, hb⟩
    go_wp2_with fail
    go_ret
    exact ⟨rfl, hb⟩
  · have h2 : 9007199254740992 < n := by omega
    clear hn
    go_enter Tryd.func13, Tryd.ntmps13
    go_wp2_with fail
    refine (awake3_any w hG).mono ?_
    rintro e w1 ⟨rfl, hb⟩
    go_wp2_with fail
    go_ret
    exact ⟨rfl, hb⟩
set_option maxRecDepth 100000 in
set_option maxHeartbeats 4000000 in
theorem law13_nan (n : Int) (x : Nat) (w : World) (hG : Gz w) (hn1 : -9007199254740992 ≤ n) (hn2 : n ≤ 9007199254740992) (hx : x < 18446744073709551616) (hn : isNaNB x = true) : Calls Tryd.prog 13 #[.int .i64 n, .float .f64 x] w fun e w' => e = .returned (.bool true) ∧ Below w.heap.size w w' := by
  have hI := Lib.hid (fun w => int_any (intB n) w (int_rv (by omega)).1.1)
  rw [intR_int (by omega)] at hI
  have hci := run_fromI n
  have hX := Lib.hid (fun w => round_any x w hx)
  have hrc := (rndF_can hx).1
  have hX2 := Lib.hid (fun w => round_any (rndF x) w hrc)
  rw [rndF_again hx] at hX2
  have ho : (FloatKind.f64.format.order x x != some .eq) = true := by rw [order_fmt x, hn]
  have hr1 : rndF x = nanB := if_pos hn
  have hcx : canB x = nanB := if_pos hn
  have hS := Lib.hid (fun w => same_any' nanB x w)
  rw [hcx, show canB nanB = nanB by decide +kernel] at hS
  rw [hr1] at hX hX2 hrc
  clear hn hr1 hcx
  generalize nanB = r at *
  go_enter Tryd.func13, Tryd.ntmps13
  go_wp2_with fail
  refine (hI.out w).mono ?_
  rintro e w1 ⟨rfl, rfl⟩
  go_wp2_with fail
  refine (hX.out w).mono ?_
  rintro e w1 ⟨rfl, hb1⟩
  go_wp2_with fail
  refine (hX2.out w1).mono ?_
  rintro e w2 ⟨rfl, hb2⟩
  have hB2 := below_on hb2 hb1 (Nat.le_refl _)
  clear hb1 hb2
  go_wp2_with fail
  refine (same_self r w2).mono ?_
  rintro e w3 ⟨rfl, rfl⟩
  go_wp2_with fail
  refine (hS.out w2).mono ?_
  rintro e w3 ⟨rfl, rfl⟩
  go_wp2_with fail
  refine (awake3_any w2 (hG.on hB2)).mono ?_
  rintro e w10 ⟨rfl, hb10⟩
  go_wp2_with fail
  go_ret
  exact ⟨rfl, below_on hb10 hB2 (Nat.le_refl _)⟩

set_option maxRecDepth 100000 in
set_option maxHeartbeats 4000000 in
theorem law13_inf (n : Int) (x : Nat) (w : World) (hG : Gz w) (hn1 : -9007199254740992 ≤ n) (hn2 : n ≤ 9007199254740992) (hx : x < 18446744073709551616) (hn : isNaNB x = false) (hm : magB x = 9218868437227405312) : Calls Tryd.prog 13 #[.int .i64 n, .float .f64 x] w fun e w' => e = .returned (.bool true) ∧ Below w.heap.size w w' := by
  have hI := Lib.hid (fun w => int_any (intB n) w (int_rv (by omega)).1.1)
  rw [intR_int (by omega)] at hI
  have hci := run_fromI n
  have hX := Lib.hid (fun w => round_any x w hx)
  have hrc := (rndF_can hx).1
  have hX2 := Lib.hid (fun w => round_any (rndF x) w hrc)
  rw [rndF_again hx] at hX2
  have ho : (FloatKind.f64.format.order x x != some .eq) = false := by rw [order_fmt x, hn]
  have hr1 : rndF x = x := by unfold rndF; rw [hn, if_neg (by decide), inf_whole .even hx hm]
  have hS := Lib.hid (fun w => run_sub_inf (inf_self hx hm) w)
  rw [hr1] at hX hX2 hrc
  clear hn hr1 hm
  go_enter Tryd.func13, Tryd.ntmps13
  go_wp2_with fail
  refine (hI.out w).mono ?_
  rintro e w1 ⟨rfl, rfl⟩
  go_wp2_with fail
  refine (hX.out w).mono ?_
  rintro e w1 ⟨rfl, hb1⟩
  go_wp2_with fail
  refine (hX2.out w1).mono ?_
  rintro e w2 ⟨rfl, hb2⟩
  have hB2 := below_on hb2 hb1 (Nat.le_refl _)
  clear hb1 hb2
  go_wp2_with fail
  refine (same_self x w2).mono ?_
  rintro e w3 ⟨rfl, rfl⟩
  obtain ⟨c, hc, hsub⟩ := hS.out w2
  have hc0 : (FloatKind.f64.format.order c 0 != some .eq) = true := by
    rw [show FloatKind.f64.format.order c 0 = none from nan_order hc 0]; rfl
  have hB9 := below_on below_drew hB2 (Nat.le_refl _)
  clear hc
  go_wp2_with fail
  refine (same_self x w2.drew).mono ?_
  rintro e w3 ⟨rfl, rfl⟩
  go_wp2_with fail
  refine (awake3_any w2.drew (hG.on hB9)).mono ?_
  rintro e w10 ⟨rfl, hb10⟩
  go_wp2_with fail
  go_ret
  exact ⟨rfl, below_on hb10 hB9 (Nat.le_refl _)⟩

set_option maxRecDepth 100000 in
set_option maxHeartbeats 4000000 in
theorem law13_not (n : Int) (x : Nat) (w : World) (hG : Gz w) (hn1 : -9007199254740992 ≤ n) (hn2 : n ≤ 9007199254740992) (hx : x < 18446744073709551616) (hf : FinB x) (hK : ¬ OkI (rndF x)) : Calls Tryd.prog 13 #[.int .i64 n, .float .f64 x] w fun e w' => e = .returned (.bool true) ∧ Below w.heap.size w w' := by
  have hI := Lib.hid (fun w => int_any (intB n) w (int_rv (by omega)).1.1)
  rw [intR_int (by omega)] at hI
  have hci := run_fromI n
  have hX := Lib.hid (fun w => round_any x w hx)
  have hrc := (rndF_can hx).1
  have hX2 := Lib.hid (fun w => round_any (rndF x) w hrc)
  rw [rndF_again hx] at hX2
  have hI2 := Lib.hid (fun w => int_any (rndF x) w hrc)
  have ho : (FloatKind.f64.format.order x x != some .eq) = false := by rw [order_fmt x, fin_not_nan hf]
  obtain ⟨z, hz1, hz2⟩ := self_sub hf
  have hsz := run_sub hz1
  have hz : (FloatKind.f64.format.order z 0 != some .eq) = false := by rw [show FloatKind.f64.format.order z 0 = some .eq from hz2]; rfl
  have hr1 : rndF x = wholeB .even x := rndF_fin hf
  rw [hr1] at hX hX2 hrc hI2 hK
  obtain ⟨d, hd1, hd2, hd3⟩ := near_half hf
  have hsd := run_sub hd1
  have hd2' : (FloatKind.f64.format.order d 4602678819172646912 == some .gt) = false := hd2
  have hd3' : (FloatKind.f64.format.order d 13826050856027422720 == some .lt) = false := hd3
  have hi : intR (wholeB .even x) = (0, 13) := if_neg hK
  rw [hi] at hI2
  have hfr := (whole_fin .even hf).1
  have hwr := whole_is .even hf
  have hge : ((FloatKind.f64.format.order (wholeB .even x) 14069245235905429504 == some .gt || FloatKind.f64.format.order (wholeB .even x) 14069245235905429504 == some .eq) = false) ∨ ((FloatKind.f64.format.order (wholeB .even x) 14069245235905429504 == some .gt || FloatKind.f64.format.order (wholeB .even x) 14069245235905429504 == some .eq) = true ∧ (FloatKind.f64.format.order (wholeB .even x) 4845873199050653696 == some .lt || FloatKind.f64.format.order (wholeB .even x) 4845873199050653696 == some .eq) = false) := by
    rcases int_split hrc with ⟨hn, _, o1, o2⟩ | ⟨hn, hk, o1, o2⟩ | ⟨hn, hk, o1, o2⟩ | ⟨hn, _, hok, o1, o2⟩
    · rw [fin_not_nan hfr] at hn; cases hn
    · refine Or.inl ?_
      rw [show FloatKind.f64.format.order (wholeB .even x) 14069245235905429504 = some .lt from o1]; rfl
    · refine Or.inr ⟨?_, ?_⟩
      · rw [show FloatKind.f64.format.order (wholeB .even x) 14069245235905429504 = some .gt from o1]; rfl
      · rw [show FloatKind.f64.format.order (wholeB .even x) 4845873199050653696 = some .gt from o2]; rfl
    · exact absurd (hok.2 hwr) hK
  have hr0 : (FloatKind.f64.format.order (wholeB .even x) 0 != some .eq) = true := by
    rw [bne_iff_ne]
    intro e
    apply hK
    have e0 : Ieee.double.order (wholeB .even x) 0 = some .eq := e
    rw [order_fin hfr zero_fin.1, zero_fin.2] at e0
    have e1 := Int.compare_eq_eq.1 (Option.some.inj e0)
    have ht := T1_pos
    exact ⟨hfr, hwr, by rw [e1]; omega, by rw [e1]; omega⟩
  clear hi hK hfr hwr hz1 hz2 hd1 hd2 hd3 hr1 hf
  generalize wholeB .even x = r at *
  rcases hge with hge | ⟨hge, hle⟩
  · go_enter Tryd.func13, Tryd.ntmps13
    go_wp2_with fail
    refine (hI.out w).mono ?_
    rintro e w1 ⟨rfl, rfl⟩
    go_wp2_with fail
    refine (hX.out w).mono ?_
    rintro e w1 ⟨rfl, hb1⟩
    go_wp2_with fail
    refine (hX2.out w1).mono ?_
    rintro e w2 ⟨rfl, hb2⟩
    have hB2 := below_on hb2 hb1 (Nat.le_refl _)
    clear hb1 hb2
    go_wp2_with fail
    refine (same_self r w2).mono ?_
    rintro e w3 ⟨rfl, rfl⟩
    go_wp2_with fail
    refine (hI2.out w2).mono ?_
    rintro e w3 ⟨rfl, rfl⟩
    go_wp2_with fail
    refine (awake3_any w2 (hG.on hB2)).mono ?_
    rintro e w10 ⟨rfl, hb10⟩
    go_wp2_with fail
    go_ret
    exact ⟨rfl, below_on hb10 hB2 (Nat.le_refl _)⟩
  · go_enter Tryd.func13, Tryd.ntmps13
    go_wp2_with fail
    refine (hI.out w).mono ?_
    rintro e w1 ⟨rfl, rfl⟩
    go_wp2_with fail
    refine (hX.out w).mono ?_
    rintro e w1 ⟨rfl, hb1⟩
    go_wp2_with fail
    refine (hX2.out w1).mono ?_
    rintro e w2 ⟨rfl, hb2⟩
    have hB2 := below_on hb2 hb1 (Nat.le_refl _)
    clear hb1 hb2
    go_wp2_with fail
    refine (same_self r w2).mono ?_
    rintro e w3 ⟨rfl, rfl⟩
    go_wp2_with fail
    refine (hI2.out w2).mono ?_
    rintro e w3 ⟨rfl, rfl⟩
    go_wp2_with fail
    refine (awake3_any w2 (hG.on hB2)).mono ?_
    rintro e w10 ⟨rfl, hb10⟩
    go_wp2_with fail
    go_ret
    exact ⟨rfl, below_on hb10 hB2 (Nat.le_refl _)⟩
set_option maxRecDepth 100000 in
set_option maxHeartbeats 4000000 in
theorem law13_ok (n : Int) (x : Nat) (w : World) (hG : Gz w) (hn1 : -9007199254740992 ≤ n) (hn2 : n ≤ 9007199254740992) (hx : x < 18446744073709551616) (hf : FinB x) (hK : OkI (rndF x)) : Calls Tryd.prog 13 #[.int .i64 n, .float .f64 x] w fun e w' => e = .returned (.bool true) ∧ Below w.heap.size w w' := by
  have hI := Lib.hid (fun w => int_any (intB n) w (int_rv (by omega)).1.1)
  rw [intR_int (by omega)] at hI
  have hci := run_fromI n
  have hX := Lib.hid (fun w => round_any x w hx)
  have hrc := (rndF_can hx).1
  have hX2 := Lib.hid (fun w => round_any (rndF x) w hrc)
  rw [rndF_again hx] at hX2
  have hI2 := Lib.hid (fun w => int_any (rndF x) w hrc)
  have ho : (FloatKind.f64.format.order x x != some .eq) = false := by rw [order_fmt x, fin_not_nan hf]
  obtain ⟨z, hz1, hz2⟩ := self_sub hf
  have hsz := run_sub hz1
  have hz : (FloatKind.f64.format.order z 0 != some .eq) = false := by rw [show FloatKind.f64.format.order z 0 = some .eq from hz2]; rfl
  have hr1 : rndF x = wholeB .even x := rndF_fin hf
  rw [hr1] at hX hX2 hrc hI2 hK
  obtain ⟨d, hd1, hd2, hd3⟩ := near_half hf
  have hsd := run_sub hd1
  have hd2' : (FloatKind.f64.format.order d 4602678819172646912 == some .gt) = false := hd2
  have hd3' : (FloatKind.f64.format.order d 13826050856027422720 == some .lt) = false := hd3
  have hi : intR (wholeB .even x) = (toI (wholeB .even x), 0) := if_pos hK
  rw [hi] at hI2
  have hfr := (whole_fin .even hf).1
  have hwr := whole_is .even hf
  have hcj := run_fromI (toI (wholeB .even x))
  have hje : (FloatKind.f64.format.order (intB (toI (wholeB .even x))) (wholeB .even x) == some .eq) = true := by
    rw [show FloatKind.f64.format.order (intB (toI (wholeB .even x))) (wholeB .even x) = some .eq from int_eq hfr hwr (okI_small hK)]; rfl
  have hge : (FloatKind.f64.format.order (wholeB .even x) 14069245235905429504 == some .gt || FloatKind.f64.format.order (wholeB .even x) 14069245235905429504 == some .eq) = true ∧ (FloatKind.f64.format.order (wholeB .even x) 4845873199050653696 == some .lt || FloatKind.f64.format.order (wholeB .even x) 4845873199050653696 == some .eq) = true := by
    rcases int_split hrc with ⟨hn, hk, o1, o2⟩ | ⟨hn, hk, o1, o2⟩ | ⟨hn, hk, o1, o2⟩ | ⟨hn, _, hok, o1, o2⟩
    · exact absurd hK hk
    · exact absurd hK hk
    · exact absurd hK hk
    · refine ⟨?_, ?_⟩
      · rcases o1 with o1 | o1 <;> (rw [show FloatKind.f64.format.order (wholeB .even x) 14069245235905429504 = _ from o1]; rfl)
      · rcases o2 with o2 | o2 <;> (rw [show FloatKind.f64.format.order (wholeB .even x) 4845873199050653696 = _ from o2]; rfl)
  obtain ⟨hge, hle⟩ := hge
  have hng := (whole_fin .even hf).2.1
  by_cases h0 : Ieee.double.order (wholeB .even x) 0 = some .eq
  · have hr0 : (FloatKind.f64.format.order (wholeB .even x) 0 != some .eq) = false := by rw [show FloatKind.f64.format.order (wholeB .even x) 0 = some .eq from h0]; rfl
    obtain ⟨q1, q2⟩ := even_zero hf h0
    obtain ⟨y1, hy1, hy2⟩ := inv_sign hf q1
    obtain ⟨y2, hy3, hy4⟩ := inv_sign hfr q2
    rw [hng] at hy4
    have hq1 := run_quo hy1
    have hq2 := run_quo hy3
    have hs1 : (FloatKind.f64.format.order y1 0 == some .lt) = negB x := hy2
    have hs2 : (FloatKind.f64.format.order y2 0 == some .lt) = negB x := hy4
    clear hi hK hfr hwr hz1 hz2 hd1 hd2 hd3 hr1 hf hng h0 q1 q2 hy1 hy2 hy3 hy4
    generalize negB x = sg at *
    generalize toI (wholeB .even x) = j at *
    generalize wholeB .even x = r at *
    go_enter Tryd.func13, Tryd.ntmps13
    go_wp2_with fail
    refine (hI.out w).mono ?_
    rintro e w1 ⟨rfl, rfl⟩
    go_wp2_with fail
    refine (hX.out w).mono ?_
    rintro e w1 ⟨rfl, hb1⟩
    go_wp2_with fail
    refine (hX2.out w1).mono ?_
    rintro e w2 ⟨rfl, hb2⟩
    have hB2 := below_on hb2 hb1 (Nat.le_refl _)
    clear hb1 hb2
    go_wp2_with fail
    refine (same_self r w2).mono ?_
    rintro e w3 ⟨rfl, rfl⟩
    go_wp2_with fail
    refine (hI2.out w2).mono ?_
    rintro e w3 ⟨rfl, rfl⟩
    go_wp2_with fail
    refine (awake3_any w2 (hG.on hB2)).mono ?_
    rintro e w10 ⟨rfl, hb10⟩
    go_wp2_with fail
    go_ret
    exact ⟨rfl, below_on hb10 hB2 (Nat.le_refl _)⟩
  · have hr0 : (FloatKind.f64.format.order (wholeB .even x) 0 != some .eq) = true := by rw [bne_iff_ne]; exact h0
    clear hi hK hfr hwr hz1 hz2 hd1 hd2 hd3 hr1 hf hng h0
    generalize toI (wholeB .even x) = j at *
    generalize wholeB .even x = r at *
    go_enter Tryd.func13, Tryd.ntmps13
    go_wp2_with fail
    refine (hI.out w).mono ?_
    rintro e w1 ⟨rfl, rfl⟩
    go_wp2_with fail
    refine (hX.out w).mono ?_
    rintro e w1 ⟨rfl, hb1⟩
    go_wp2_with fail
    refine (hX2.out w1).mono ?_
    rintro e w2 ⟨rfl, hb2⟩
    have hB2 := below_on hb2 hb1 (Nat.le_refl _)
    clear hb1 hb2
    go_wp2_with fail
    refine (same_self r w2).mono ?_
    rintro e w3 ⟨rfl, rfl⟩
    go_wp2_with fail
    refine (hI2.out w2).mono ?_
    rintro e w3 ⟨rfl, rfl⟩
    go_wp2_with fail
    refine (awake3_any w2 (hG.on hB2)).mono ?_
    rintro e w10 ⟨rfl, hb10⟩
    go_wp2_with fail
    go_ret
    exact ⟨rfl, below_on hb10 hB2 (Nat.le_refl _)⟩
theorem law13_any (n : Int) (x : Nat) (w : World) (hG : Gz w) (_hn : -9223372036854775808 ≤ n ∧ n ≤ 9223372036854775807) (hx : x < 18446744073709551616) : Calls Tryd.prog 13 #[.int .i64 n, .float .f64 x] w fun e w' => e = .returned (.bool true) ∧ Below w.heap.size w w' := by
  by_cases h : n < -9007199254740992 ∨ 9007199254740992 < n
  · exact law13_far n x w hG h
  · rcases kinds hx with h1 | ⟨h1, h2⟩ | ⟨h1, h2⟩
    · exact law13_nan n x w hG (by omega) (by omega) hx h1
    · exact law13_inf n x w hG (by omega) (by omega) hx h1 h2
    · by_cases hk : OkI (rndF x)
      · exact law13_ok n x w hG (by omega) (by omega) hx h2 hk
      · exact law13_not n x w hG (by omega) (by omega) hx h2 hk
end Go.Proofs.YtfdkafmomkkapaaDoor
