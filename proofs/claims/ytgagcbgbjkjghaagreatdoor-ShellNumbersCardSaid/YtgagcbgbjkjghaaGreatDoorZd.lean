/- Lemmas and walks: Law ShellNumbers: a number is a number in one spelling. The walk: one theorem for each spelling. Printed by mkHt.py. -/
import Derived.Test.YtgagcbgbjkjghaaGreatDoorXd
import Derived.Test.YtgagcbgbjkjghaaGreatDoorZc
namespace Go.Proofs.YtgagcbgbjkjghaaGreatDoor
open Go.RowKit Go.Lib

set_option maxRecDepth 100000 in
set_option maxHeartbeats 8000000 in
theorem law4_0 (n : Int) (w : World) (hG : Scr.Gl w) (h0 : 0 ≤ n) (h1 : n ≤ 999999999) : Calls Tryz.prog 4 #[.int .i64 n, .int .i64 0] w fun e w' => e = .returned (.bool true) ∧ Chg [] w w' := by
  have HG := Lib.hid (And.intro hG (And.intro h0 h1))
  have HD := Lib.hid (fun w => Scr.decimal_any n w (by omega) (by omega))
  have n1 : decide (n < 0) = false := decide_eq_false (by omega)
  have n2 : decide (999999999 < n) = false := decide_eq_false (by omega)
  have hl := itoa_len9 h0 h1
  clear hG h0 h1
  go_enter Tryz.func4, Tryz.ntmps4
  go_wp2_with fail
  refine (HD.out _).mono ?_
  rintro e w1 ⟨rfl, b1⟩
  have HB := Lib.hid b1
  clear b1
  have HF := Lib.hid (form4_0 HG.out.2.1 HG.out.2.2)
  generalize hD : Lib.itoa n = D at *
  clear hD n1 n2
  go_wp2_with fail
  have k2 := Chg.of_below (S := []) (HB.out.alloc HB.out.size (.cells #[.string ⟨D.toArray⟩, .string (⟨#[48]⟩ ++ ⟨D.toArray⟩), .string (⟨#[43]⟩ ++ ⟨D.toArray⟩), .string (⟨#[45, 48]⟩ ++ ⟨D.toArray⟩), .string (⟨D.toArray⟩ ++ ⟨#[120]⟩), .string (⟨D.toArray⟩ ++ ⟨#[48, 48, 48, 48, 48, 48, 48, 48, 48, 48]⟩), .string ⟨#[]⟩, .string (⟨#[32]⟩ ++ ⟨D.toArray⟩)] 9))
  have hP := playN _ (HG.out.1.keep k2.below0) HF.out.1 HF.out.2.1 HF.out.2.2
  rw [← text4 _ (x := ⟨D.toArray⟩) (by apply ByteArray.ext; simp)] at hP
  have HK := Lib.hid k2
  clear k2
  refine hP.mono ?_
  clear hP
  rintro e w2 ⟨rfl, k2⟩
  have HK2 := Lib.hid (HK.out.then k2)
  clear k2
  have HA := Lib.hid (awake30 w2 (HG.out.1.keep HK2.out.below0))
  go_wp2_with fail
  refine HA.out.mono ?_
  rintro e w3 ⟨rfl, k3⟩
  have HK3 := Lib.hid (HK2.out.then k3)
  clear k3
  go_wp2_with fail
  go_ret
  exact ⟨rfl, HK3.out⟩
set_option maxRecDepth 100000 in
set_option maxHeartbeats 8000000 in
theorem law4_1 (n : Int) (w : World) (hG : Scr.Gl w) (h0 : 0 ≤ n) (h1 : n ≤ 999999999) : Calls Tryz.prog 4 #[.int .i64 n, .int .i64 1] w fun e w' => e = .returned (.bool true) ∧ Chg [] w w' := by
  have HG := Lib.hid (And.intro hG (And.intro h0 h1))
  have HD := Lib.hid (fun w => Scr.decimal_any n w (by omega) (by omega))
  have n1 : decide (n < 0) = false := decide_eq_false (by omega)
  have n2 : decide (999999999 < n) = false := decide_eq_false (by omega)
  have hl := itoa_len9 h0 h1
  clear hG h0 h1
  go_enter Tryz.func4, Tryz.ntmps4
  go_wp2_with fail
  refine (HD.out _).mono ?_
  rintro e w1 ⟨rfl, b1⟩
  have HB := Lib.hid b1
  clear b1
  have HF := Lib.hid (form4_1 HG.out.2.1 HG.out.2.2)
  generalize hD : Lib.itoa n = D at *
  clear hD n1 n2
  go_wp2_with fail
  have k2 := Chg.of_below (S := []) (HB.out.alloc HB.out.size (.cells #[.string ⟨D.toArray⟩, .string (⟨#[48]⟩ ++ ⟨D.toArray⟩), .string (⟨#[43]⟩ ++ ⟨D.toArray⟩), .string (⟨#[45, 48]⟩ ++ ⟨D.toArray⟩), .string (⟨D.toArray⟩ ++ ⟨#[120]⟩), .string (⟨D.toArray⟩ ++ ⟨#[48, 48, 48, 48, 48, 48, 48, 48, 48, 48]⟩), .string ⟨#[]⟩, .string (⟨#[32]⟩ ++ ⟨D.toArray⟩)] 9))
  have hP := playN _ (HG.out.1.keep k2.below0) HF.out.1 HF.out.2.1 HF.out.2.2
  rw [← text4 _ (x := (⟨#[48]⟩ ++ ⟨D.toArray⟩)) (by apply ByteArray.ext; simp)] at hP
  have HK := Lib.hid k2
  clear k2
  refine hP.mono ?_
  clear hP
  rintro e w2 ⟨rfl, k2⟩
  have HK2 := Lib.hid (HK.out.then k2)
  clear k2
  have HA := Lib.hid (awake30 w2 (HG.out.1.keep HK2.out.below0))
  go_wp2_with fail
  refine HA.out.mono ?_
  rintro e w3 ⟨rfl, k3⟩
  have HK3 := Lib.hid (HK2.out.then k3)
  clear k3
  go_wp2_with fail
  go_ret
  exact ⟨rfl, HK3.out⟩
set_option maxRecDepth 100000 in
set_option maxHeartbeats 8000000 in
theorem law4_2 (n : Int) (w : World) (hG : Scr.Gl w) (h0 : 0 ≤ n) (h1 : n ≤ 999999999) : Calls Tryz.prog 4 #[.int .i64 n, .int .i64 2] w fun e w' => e = .returned (.bool true) ∧ Chg [] w w' := by
  have HG := Lib.hid (And.intro hG (And.intro h0 h1))
  have HD := Lib.hid (fun w => Scr.decimal_any n w (by omega) (by omega))
  have n1 : decide (n < 0) = false := decide_eq_false (by omega)
  have n2 : decide (999999999 < n) = false := decide_eq_false (by omega)
  have hl := itoa_len9 h0 h1
  clear hG h0 h1
  go_enter Tryz.func4, Tryz.ntmps4
  go_wp2_with fail
  refine (HD.out _).mono ?_
  rintro e w1 ⟨rfl, b1⟩
  have HB := Lib.hid b1
  clear b1
  have HF := Lib.hid (form4_2 HG.out.2.1 HG.out.2.2)
  generalize hD : Lib.itoa n = D at *
  clear hD n1 n2
  go_wp2_with fail
  have k2 := Chg.of_below (S := []) (HB.out.alloc HB.out.size (.cells #[.string ⟨D.toArray⟩, .string (⟨#[48]⟩ ++ ⟨D.toArray⟩), .string (⟨#[43]⟩ ++ ⟨D.toArray⟩), .string (⟨#[45, 48]⟩ ++ ⟨D.toArray⟩), .string (⟨D.toArray⟩ ++ ⟨#[120]⟩), .string (⟨D.toArray⟩ ++ ⟨#[48, 48, 48, 48, 48, 48, 48, 48, 48, 48]⟩), .string ⟨#[]⟩, .string (⟨#[32]⟩ ++ ⟨D.toArray⟩)] 9))
  have hP := playN _ (HG.out.1.keep k2.below0) HF.out.1 HF.out.2.1 HF.out.2.2
  rw [← text4 _ (x := (⟨#[43]⟩ ++ ⟨D.toArray⟩)) (by apply ByteArray.ext; simp)] at hP
  have HK := Lib.hid k2
  clear k2
  refine hP.mono ?_
  clear hP
  rintro e w2 ⟨rfl, k2⟩
  have HK2 := Lib.hid (HK.out.then k2)
  clear k2
  have HA := Lib.hid (awake30 w2 (HG.out.1.keep HK2.out.below0))
  go_wp2_with fail
  refine HA.out.mono ?_
  rintro e w3 ⟨rfl, k3⟩
  have HK3 := Lib.hid (HK2.out.then k3)
  clear k3
  go_wp2_with fail
  go_ret
  exact ⟨rfl, HK3.out⟩
set_option maxRecDepth 100000 in
set_option maxHeartbeats 8000000 in
theorem law4_3 (n : Int) (w : World) (hG : Scr.Gl w) (h0 : 0 ≤ n) (h1 : n ≤ 999999999) : Calls Tryz.prog 4 #[.int .i64 n, .int .i64 3] w fun e w' => e = .returned (.bool true) ∧ Chg [] w w' := by
  have HG := Lib.hid (And.intro hG (And.intro h0 h1))
  have HD := Lib.hid (fun w => Scr.decimal_any n w (by omega) (by omega))
  have n1 : decide (n < 0) = false := decide_eq_false (by omega)
  have n2 : decide (999999999 < n) = false := decide_eq_false (by omega)
  have hl := itoa_len9 h0 h1
  clear hG h0 h1
  go_enter Tryz.func4, Tryz.ntmps4
  go_wp2_with fail
  refine (HD.out _).mono ?_
  rintro e w1 ⟨rfl, b1⟩
  have HB := Lib.hid b1
  clear b1
  have HF := Lib.hid (form4_3 HG.out.2.1 HG.out.2.2)
  generalize hD : Lib.itoa n = D at *
  clear hD n1 n2
  go_wp2_with fail
  have k2 := Chg.of_below (S := []) (HB.out.alloc HB.out.size (.cells #[.string ⟨D.toArray⟩, .string (⟨#[48]⟩ ++ ⟨D.toArray⟩), .string (⟨#[43]⟩ ++ ⟨D.toArray⟩), .string (⟨#[45, 48]⟩ ++ ⟨D.toArray⟩), .string (⟨D.toArray⟩ ++ ⟨#[120]⟩), .string (⟨D.toArray⟩ ++ ⟨#[48, 48, 48, 48, 48, 48, 48, 48, 48, 48]⟩), .string ⟨#[]⟩, .string (⟨#[32]⟩ ++ ⟨D.toArray⟩)] 9))
  have hP := playN _ (HG.out.1.keep k2.below0) HF.out.1 HF.out.2.1 HF.out.2.2
  rw [← text4 _ (x := (⟨#[45, 48]⟩ ++ ⟨D.toArray⟩)) (by apply ByteArray.ext; simp)] at hP
  have HK := Lib.hid k2
  clear k2
  refine hP.mono ?_
  clear hP
  rintro e w2 ⟨rfl, k2⟩
  have HK2 := Lib.hid (HK.out.then k2)
  clear k2
  have HA := Lib.hid (awake30 w2 (HG.out.1.keep HK2.out.below0))
  go_wp2_with fail
  refine HA.out.mono ?_
  rintro e w3 ⟨rfl, k3⟩
  have HK3 := Lib.hid (HK2.out.then k3)
  clear k3
  go_wp2_with fail
  go_ret
  exact ⟨rfl, HK3.out⟩
set_option maxRecDepth 100000 in
set_option maxHeartbeats 8000000 in
theorem law4_4 (n : Int) (w : World) (hG : Scr.Gl w) (h0 : 0 ≤ n) (h1 : n ≤ 999999999) : Calls Tryz.prog 4 #[.int .i64 n, .int .i64 4] w fun e w' => e = .returned (.bool true) ∧ Chg [] w w' := by
  have HG := Lib.hid (And.intro hG (And.intro h0 h1))
  have HD := Lib.hid (fun w => Scr.decimal_any n w (by omega) (by omega))
  have n1 : decide (n < 0) = false := decide_eq_false (by omega)
  have n2 : decide (999999999 < n) = false := decide_eq_false (by omega)
  have hl := itoa_len9 h0 h1
  clear hG h0 h1
  go_enter Tryz.func4, Tryz.ntmps4
  go_wp2_with fail
  refine (HD.out _).mono ?_
  rintro e w1 ⟨rfl, b1⟩
  have HB := Lib.hid b1
  clear b1
  have HF := Lib.hid (form4_4 HG.out.2.1 HG.out.2.2)
  generalize hD : Lib.itoa n = D at *
  clear hD n1 n2
  go_wp2_with fail
  have k2 := Chg.of_below (S := []) (HB.out.alloc HB.out.size (.cells #[.string ⟨D.toArray⟩, .string (⟨#[48]⟩ ++ ⟨D.toArray⟩), .string (⟨#[43]⟩ ++ ⟨D.toArray⟩), .string (⟨#[45, 48]⟩ ++ ⟨D.toArray⟩), .string (⟨D.toArray⟩ ++ ⟨#[120]⟩), .string (⟨D.toArray⟩ ++ ⟨#[48, 48, 48, 48, 48, 48, 48, 48, 48, 48]⟩), .string ⟨#[]⟩, .string (⟨#[32]⟩ ++ ⟨D.toArray⟩)] 9))
  have hP := playN _ (HG.out.1.keep k2.below0) HF.out.1 HF.out.2.1 HF.out.2.2
  rw [← text4 _ (x := (⟨D.toArray⟩ ++ ⟨#[120]⟩)) (by apply ByteArray.ext; simp)] at hP
  have HK := Lib.hid k2
  clear k2
  refine hP.mono ?_
  clear hP
  rintro e w2 ⟨rfl, k2⟩
  have HK2 := Lib.hid (HK.out.then k2)
  clear k2
  have HA := Lib.hid (awake30 w2 (HG.out.1.keep HK2.out.below0))
  go_wp2_with fail
  refine HA.out.mono ?_
  rintro e w3 ⟨rfl, k3⟩
  have HK3 := Lib.hid (HK2.out.then k3)
  clear k3
  go_wp2_with fail
  go_ret
  exact ⟨rfl, HK3.out⟩
set_option maxRecDepth 100000 in
set_option maxHeartbeats 8000000 in
theorem law4_5 (n : Int) (w : World) (hG : Scr.Gl w) (h0 : 0 ≤ n) (h1 : n ≤ 999999999) : Calls Tryz.prog 4 #[.int .i64 n, .int .i64 5] w fun e w' => e = .returned (.bool true) ∧ Chg [] w w' := by
  have HG := Lib.hid (And.intro hG (And.intro h0 h1))
  have HD := Lib.hid (fun w => Scr.decimal_any n w (by omega) (by omega))
  have n1 : decide (n < 0) = false := decide_eq_false (by omega)
  have n2 : decide (999999999 < n) = false := decide_eq_false (by omega)
  have hl := itoa_len9 h0 h1
  clear hG h0 h1
  go_enter Tryz.func4, Tryz.ntmps4
  go_wp2_with fail
  refine (HD.out _).mono ?_
  rintro e w1 ⟨rfl, b1⟩
  have HB := Lib.hid b1
  clear b1
  have HF := Lib.hid (form4_5 HG.out.2.1 HG.out.2.2)
  generalize hD : Lib.itoa n = D at *
  clear hD n1 n2
  go_wp2_with fail
  have k2 := Chg.of_below (S := []) (HB.out.alloc HB.out.size (.cells #[.string ⟨D.toArray⟩, .string (⟨#[48]⟩ ++ ⟨D.toArray⟩), .string (⟨#[43]⟩ ++ ⟨D.toArray⟩), .string (⟨#[45, 48]⟩ ++ ⟨D.toArray⟩), .string (⟨D.toArray⟩ ++ ⟨#[120]⟩), .string (⟨D.toArray⟩ ++ ⟨#[48, 48, 48, 48, 48, 48, 48, 48, 48, 48]⟩), .string ⟨#[]⟩, .string (⟨#[32]⟩ ++ ⟨D.toArray⟩)] 9))
  have hP := playN _ (HG.out.1.keep k2.below0) HF.out.1 HF.out.2.1 HF.out.2.2
  rw [← text4 _ (x := (⟨D.toArray⟩ ++ ⟨#[48, 48, 48, 48, 48, 48, 48, 48, 48, 48]⟩)) (by apply ByteArray.ext; simp)] at hP
  have HK := Lib.hid k2
  clear k2
  refine hP.mono ?_
  clear hP
  rintro e w2 ⟨rfl, k2⟩
  have HK2 := Lib.hid (HK.out.then k2)
  clear k2
  have HA := Lib.hid (awake30 w2 (HG.out.1.keep HK2.out.below0))
  go_wp2_with fail
  refine HA.out.mono ?_
  rintro e w3 ⟨rfl, k3⟩
  have HK3 := Lib.hid (HK2.out.then k3)
  clear k3
  go_wp2_with fail
  go_ret
  exact ⟨rfl, HK3.out⟩
set_option maxRecDepth 100000 in
set_option maxHeartbeats 8000000 in
theorem law4_6 (n : Int) (w : World) (hG : Scr.Gl w) (h0 : 0 ≤ n) (h1 : n ≤ 999999999) : Calls Tryz.prog 4 #[.int .i64 n, .int .i64 6] w fun e w' => e = .returned (.bool true) ∧ Chg [] w w' := by
  have HG := Lib.hid (And.intro hG (And.intro h0 h1))
  have HD := Lib.hid (fun w => Scr.decimal_any n w (by omega) (by omega))
  have n1 : decide (n < 0) = false := decide_eq_false (by omega)
  have n2 : decide (999999999 < n) = false := decide_eq_false (by omega)
  have hl := itoa_len9 h0 h1
  clear hG h0 h1
  go_enter Tryz.func4, Tryz.ntmps4
  go_wp2_with fail
  refine (HD.out _).mono ?_
  rintro e w1 ⟨rfl, b1⟩
  have HB := Lib.hid b1
  clear b1
  have HF := Lib.hid (form4_6 HG.out.2.1 HG.out.2.2)
  generalize hD : Lib.itoa n = D at *
  clear hD n1 n2
  go_wp2_with fail
  have k2 := Chg.of_below (S := []) (HB.out.alloc HB.out.size (.cells #[.string ⟨D.toArray⟩, .string (⟨#[48]⟩ ++ ⟨D.toArray⟩), .string (⟨#[43]⟩ ++ ⟨D.toArray⟩), .string (⟨#[45, 48]⟩ ++ ⟨D.toArray⟩), .string (⟨D.toArray⟩ ++ ⟨#[120]⟩), .string (⟨D.toArray⟩ ++ ⟨#[48, 48, 48, 48, 48, 48, 48, 48, 48, 48]⟩), .string ⟨#[]⟩, .string (⟨#[32]⟩ ++ ⟨D.toArray⟩)] 9))
  have hP := playN _ (HG.out.1.keep k2.below0) HF.out.1 HF.out.2.1 HF.out.2.2
  rw [← text4 _ (x := ⟨#[]⟩) (by apply ByteArray.ext; simp)] at hP
  have HK := Lib.hid k2
  clear k2
  refine hP.mono ?_
  clear hP
  rintro e w2 ⟨rfl, k2⟩
  have HK2 := Lib.hid (HK.out.then k2)
  clear k2
  have HA := Lib.hid (awake30 w2 (HG.out.1.keep HK2.out.below0))
  go_wp2_with fail
  refine HA.out.mono ?_
  rintro e w3 ⟨rfl, k3⟩
  have HK3 := Lib.hid (HK2.out.then k3)
  clear k3
  go_wp2_with fail
  go_ret
  exact ⟨rfl, HK3.out⟩
set_option maxRecDepth 100000 in
set_option maxHeartbeats 8000000 in
theorem law4_7 (n : Int) (w : World) (hG : Scr.Gl w) (h0 : 0 ≤ n) (h1 : n ≤ 999999999) : Calls Tryz.prog 4 #[.int .i64 n, .int .i64 7] w fun e w' => e = .returned (.bool true) ∧ Chg [] w w' := by
  have HG := Lib.hid (And.intro hG (And.intro h0 h1))
  have HD := Lib.hid (fun w => Scr.decimal_any n w (by omega) (by omega))
  have n1 : decide (n < 0) = false := decide_eq_false (by omega)
  have n2 : decide (999999999 < n) = false := decide_eq_false (by omega)
  have hl := itoa_len9 h0 h1
  clear hG h0 h1
  go_enter Tryz.func4, Tryz.ntmps4
  go_wp2_with fail
  refine (HD.out _).mono ?_
  rintro e w1 ⟨rfl, b1⟩
  have HB := Lib.hid b1
  clear b1
  have HF := Lib.hid (form4_7 HG.out.2.1 HG.out.2.2)
  generalize hD : Lib.itoa n = D at *
  clear hD n1 n2
  go_wp2_with fail
  have k2 := Chg.of_below (S := []) (HB.out.alloc HB.out.size (.cells #[.string ⟨D.toArray⟩, .string (⟨#[48]⟩ ++ ⟨D.toArray⟩), .string (⟨#[43]⟩ ++ ⟨D.toArray⟩), .string (⟨#[45, 48]⟩ ++ ⟨D.toArray⟩), .string (⟨D.toArray⟩ ++ ⟨#[120]⟩), .string (⟨D.toArray⟩ ++ ⟨#[48, 48, 48, 48, 48, 48, 48, 48, 48, 48]⟩), .string ⟨#[]⟩, .string (⟨#[32]⟩ ++ ⟨D.toArray⟩)] 9))
  have hP := playN _ (HG.out.1.keep k2.below0) HF.out.1 HF.out.2.1 HF.out.2.2
  rw [← text4 _ (x := (⟨#[32]⟩ ++ ⟨D.toArray⟩)) (by apply ByteArray.ext; simp)] at hP
  have HK := Lib.hid k2
  clear k2
  refine hP.mono ?_
  clear hP
  rintro e w2 ⟨rfl, k2⟩
  have HK2 := Lib.hid (HK.out.then k2)
  clear k2
  have HA := Lib.hid (awake30 w2 (HG.out.1.keep HK2.out.below0))
  go_wp2_with fail
  refine HA.out.mono ?_
  rintro e w3 ⟨rfl, k3⟩
  have HK3 := Lib.hid (HK2.out.then k3)
  clear k3
  go_wp2_with fail
  go_ret
  exact ⟨rfl, HK3.out⟩
set_option maxRecDepth 100000 in
set_option maxHeartbeats 8000000 in
theorem law4_far (n how : Int) (w : World) (hG : Scr.Gl w) (h : n < 0 ∨ 999999999 < n) : Calls Tryz.prog 4 #[.int .i64 n, .int .i64 how] w fun e w' => e = .returned (.bool true) ∧ Chg [] w w' := by
  have HA := Lib.hid (awake30 w hG)
  clear hG
  by_cases h0 : n < 0
  · have n1 : decide (n < 0) = true := decide_eq_true h0
    clear h
    go_enter Tryz.func4, Tryz.ntmps4
    go_wp2_with fail
    refine HA.out.mono ?_
    rintro e w1 ⟨rfl, k1⟩
    have HK := Lib.hid k1
    clear k1
    go_wp2_with fail
    go_ret
    exact ⟨rfl, HK.out⟩
  · have n1 : decide (n < 0) = false := decide_eq_false h0
    have n2 : decide (999999999 < n) = true := decide_eq_true (by omega)
    clear h
    go_enter Tryz.func4, Tryz.ntmps4
    go_wp2_with fail
    refine HA.out.mono ?_
    rintro e w1 ⟨rfl, k1⟩
    have HK := Lib.hid k1
    clear k1
    go_wp2_with fail
    go_ret
    exact ⟨rfl, HK.out⟩
set_option maxRecDepth 100000 in
set_option maxHeartbeats 8000000 in
theorem law4_out (n how : Int) (w : World) (hG : Scr.Gl w) (h0 : 0 ≤ n) (h1 : n ≤ 999999999) (h : how < 0 ∨ 8 ≤ how) : Calls Tryz.prog 4 #[.int .i64 n, .int .i64 how] w fun e w' => e = .returned (.bool true) ∧ Chg [] w w' := by
  have HG := Lib.hid hG
  have HD := Lib.hid (fun w => Scr.decimal_any n w (by omega) (by omega))
  have n1 : decide (n < 0) = false := decide_eq_false (by omega)
  have n2 : decide (999999999 < n) = false := decide_eq_false (by omega)
  have hl := itoa_len9 h0 h1
  have HH := Lib.hid h
  clear hG h0 h1 h
  by_cases hh : how < 0
  · have n3 : decide (how < 0) = true := decide_eq_true hh
    go_enter Tryz.func4, Tryz.ntmps4
    go_wp2_with fail
    refine (HD.out _).mono ?_
    rintro e w1 ⟨rfl, b1⟩
    have HB := Lib.hid b1
    clear b1
    generalize hD : Lib.itoa n = D at *
    clear hD n1 n2
    go_wp2_with fail
    have k2 := Chg.of_below (S := []) (HB.out.alloc HB.out.size (.cells #[.string ⟨D.toArray⟩, .string (⟨#[48]⟩ ++ ⟨D.toArray⟩), .string (⟨#[43]⟩ ++ ⟨D.toArray⟩), .string (⟨#[45, 48]⟩ ++ ⟨D.toArray⟩), .string (⟨D.toArray⟩ ++ ⟨#[120]⟩), .string (⟨D.toArray⟩ ++ ⟨#[48, 48, 48, 48, 48, 48, 48, 48, 48, 48]⟩), .string ⟨#[]⟩, .string (⟨#[32]⟩ ++ ⟨D.toArray⟩)] 9))
    have HA := Lib.hid (awake30 _ (HG.out.keep k2.below0))
    have HK := Lib.hid k2
    clear k2
    refine HA.out.mono ?_
    clear HA
    rintro e w2 ⟨rfl, k2⟩
    have HK2 := Lib.hid (HK.out.then k2)
    clear k2
    go_wp2_with fail
    go_ret
    exact ⟨rfl, HK2.out⟩
  · have n3 : decide (how < 0) = false := decide_eq_false hh
    have n4 : decide ((8 : Int) ≤ how) = true := decide_eq_true (by have := HH.out; omega)
    go_enter Tryz.func4, Tryz.ntmps4
    go_wp2_with fail
    refine (HD.out _).mono ?_
    rintro e w1 ⟨rfl, b1⟩
    have HB := Lib.hid b1
    clear b1
    generalize hD : Lib.itoa n = D at *
    clear hD n1 n2
    go_wp2_with fail
    have k2 := Chg.of_below (S := []) (HB.out.alloc HB.out.size (.cells #[.string ⟨D.toArray⟩, .string (⟨#[48]⟩ ++ ⟨D.toArray⟩), .string (⟨#[43]⟩ ++ ⟨D.toArray⟩), .string (⟨#[45, 48]⟩ ++ ⟨D.toArray⟩), .string (⟨D.toArray⟩ ++ ⟨#[120]⟩), .string (⟨D.toArray⟩ ++ ⟨#[48, 48, 48, 48, 48, 48, 48, 48, 48, 48]⟩), .string ⟨#[]⟩, .string (⟨#[32]⟩ ++ ⟨D.toArray⟩)] 9))
    have HA := Lib.hid (awake30 _ (HG.out.keep k2.below0))
    have HK := Lib.hid k2
    clear k2
    refine HA.out.mono ?_
    clear HA
    rintro e w2 ⟨rfl, k2⟩
    have HK2 := Lib.hid (HK.out.then k2)
    clear k2
    go_wp2_with fail
    go_ret
    exact ⟨rfl, HK2.out⟩
theorem law4_b (n how : Int) (w : World) (hG : Scr.Gl w) (_h0 : -9223372036854775808 ≤ n) (_h1 : n ≤ 9223372036854775807) (_h2 : -9223372036854775808 ≤ how) (_h3 : how ≤ 9223372036854775807) : Calls Tryz.prog 4 #[.int .i64 n, .int .i64 how] w fun e w' => e = .returned (.bool true) ∧ Chg [] w w' := by
  by_cases hn : n < 0 ∨ 999999999 < n
  · exact law4_far n how w hG hn
  have h0 : 0 ≤ n := by omega
  have h1 : n ≤ 999999999 := by omega
  by_cases hh : how < 0 ∨ 8 ≤ how
  · exact law4_out n how w hG h0 h1 hh
  rcases (by omega : how = 0 ∨ how = 1 ∨ how = 2 ∨ how = 3 ∨ how = 4 ∨ how = 5 ∨ how = 6 ∨ how = 7) with rfl | rfl | rfl | rfl | rfl | rfl | rfl | rfl
  · exact law4_0 n w hG h0 h1
  · exact law4_1 n w hG h0 h1
  · exact law4_2 n w hG h0 h1
  · exact law4_3 n w hG h0 h1
  · exact law4_4 n w hG h0 h1
  · exact law4_5 n w hG h0 h1
  · exact law4_6 n w hG h0 h1
  · exact law4_7 n w hG h0 h1
end Go.Proofs.YtgagcbgbjkjghaaGreatDoor
