/- Plain: doubles: differences, ints, one divided by a number. No program in this text. -/
import Derived.Test.YtfdkafmomkkapaaGreatDoorR2
namespace Go.Proofs.YtfdkafmomkkapaaGreatDoor
open Ieee

theorem valR_mono {r q : Nat} (h : r ≤ q) : valR r ≤ valR q := by
  unfold valR
  by_cases h1 : q < 4503599627370496
  · rw [if_pos h1, if_pos (by omega)]; exact h
  · rw [if_neg h1]
    by_cases h2 : r < 4503599627370496
    · rw [if_pos h2]
      have hp : 1 ≤ 2 ^ (q / 4503599627370496 - 1) := Nat.pow_pos (by decide)
      have := Nat.mul_le_mul_left (4503599627370496 + q % 4503599627370496) hp
      omega
    · rw [if_neg h2]
      by_cases h3 : r / 4503599627370496 = q / 4503599627370496
      · rw [h3]; exact Nat.mul_le_mul_right _ (by omega)
      · have h4 : r / 4503599627370496 < q / 4503599627370496 := by omega
        have e : (2 : Nat) ^ (q / 4503599627370496 - 1) = 2 ^ (r / 4503599627370496 - 1) * 2 ^ (q / 4503599627370496 - r / 4503599627370496) := by
          rw [← Nat.pow_add]; congr 1; omega
        have h5 : 2 ≤ 2 ^ (q / 4503599627370496 - r / 4503599627370496) := by
          have := Nat.pow_le_pow_right (n := 2) (by decide) (show 1 ≤ q / 4503599627370496 - r / 4503599627370496 by omega)
          simpa using this
        rw [e]
        have h6 : (4503599627370496 + r % 4503599627370496) * 2 ^ (r / 4503599627370496 - 1) ≤ (2 * 4503599627370496) * 2 ^ (r / 4503599627370496 - 1) := Nat.mul_le_mul_right _ (by omega)
        have h7 : 4503599627370496 * (2 ^ (r / 4503599627370496 - 1) * 2) ≤ (4503599627370496 + q % 4503599627370496) * (2 ^ (r / 4503599627370496 - 1) * 2 ^ (q / 4503599627370496 - r / 4503599627370496)) :=
          Nat.mul_le_mul (by omega) (Nat.mul_le_mul_left _ h5)
        have h8 : 2 * 4503599627370496 * 2 ^ (r / 4503599627370496 - 1) = 4503599627370496 * (2 ^ (r / 4503599627370496 - 1) * 2) := by
          generalize 2 ^ (r / 4503599627370496 - 1) = P; omega
        omega
theorem valR_pow (k : Nat) : valR ((k + 1) * 4503599627370496) = pw (52 + k) := by
  unfold valR
  rw [if_neg (by omega), show (k + 1) * 4503599627370496 % 4503599627370496 = 0 by omega, show (k + 1) * 4503599627370496 / 4503599627370496 - 1 = k by omega, Nat.add_zero, ← pw_eq k, ← pw_add', show (52 : Nat) + k = 52 + k from rfl]
theorem fin_num {b : Nat} (h : b < 9218868437227405312) : FinB b ∧ rv b = valR b ∧ FinB (9223372036854775808 + b) ∧ rv (9223372036854775808 + b) = -(valR b : Int) := by
  have w0 : double.word false b = b := by rw [word_eq]; rfl
  have w1 : double.word true b = 9223372036854775808 + b := by rw [word_eq]; rfl
  have f0 := word_fin (s := false) h
  have f1 := word_fin (s := true) h
  have r0 := word_rv (s := false) h
  have r1 := word_rv (s := true) h
  rw [w0] at f0 r0
  rw [w1] at f1 r1
  exact ⟨f0, r0, f1, r1⟩
theorem half_rv : FinB 4602678819172646912 ∧ rv 4602678819172646912 = (pw 1073 : Nat) ∧ FinB 13826050856027422720 ∧ rv 13826050856027422720 = -((pw 1073 : Nat) : Int) := by
  have h := @fin_num ((1021 + 1) * 4503599627370496) (by decide)
  rw [valR_pow 1021] at h
  exact h
theorem top_rv : FinB 4845873199050653696 ∧ rv 4845873199050653696 = (9007199254740992 * T1 : Nat) ∧ FinB 14069245235905429504 ∧ rv 14069245235905429504 = -((9007199254740992 * T1 : Nat) : Int) := by
  have h := @fin_num ((1075 + 1) * 4503599627370496) (by decide)
  rw [valR_pow 1075, show pw (52 + 1075) = 9007199254740992 * T1 from top_pow] at h
  exact h

/-! the difference -/
theorem sum_rv (s t : Bool) (m n : Nat) (i j : Int) (hi : -1074 ≤ i) (hj : -1074 ≤ j) :
    ∃ g, ((Datum.number s m i).sum (.number t n j)).map double.write = some (double.word g (rungOf (sgnI s (units m i) + sgnI t (units n j)).natAbs)) ∧
      (0 < sgnI s (units m i) + sgnI t (units n j) → g = false) ∧ (sgnI s (units m i) + sgnI t (units n j) < 0 → g = true) := by
  unfold Datum.sum
  simp only [Option.map_some]
  rw [write_num _ _ _ (by omega), signed_eq, signed_eq]
  have hk : (0 : Int) < ((2 ^ (min i j + 1074).toNat : Nat) : Int) := by
    have : 0 < 2 ^ (min i j + 1074).toNat := Nat.pow_pos (by decide)
    omega
  have e : (sgnI s (m * 2 ^ (i - min i j).toNat) + sgnI t (n * 2 ^ (j - min i j).toNat)) * ((2 ^ (min i j + 1074).toNat : Nat) : Int) = sgnI s (units m i) + sgnI t (units n j) := by
    rw [Int.add_mul, sgn_mul, sgn_mul, units_base _ _ _ (by omega) (by omega), units_base _ _ _ (by omega) (by omega)]
  have eu : units (sgnI s (m * 2 ^ (i - min i j).toNat) + sgnI t (n * 2 ^ (j - min i j).toNat)).natAbs (min i j) = (sgnI s (units m i) + sgnI t (units n j)).natAbs := by
    rw [← e, Int.natAbs_mul, Int.natAbs_natCast]
    rfl
  refine ⟨_, congrArg some (congrArg _ (congrArg rungOf eu)), ?_, ?_⟩
  · intro h
    rw [← e] at h
    have h2 := Int.pos_of_mul_pos_left h hk
    rw [if_neg (by omega)]; exact decide_eq_false (by omega)
  · intro h
    rw [← e] at h
    have h2 := Int.neg_of_mul_neg_left h hk
    rw [if_neg (by omega)]; exact decide_eq_true h2
theorem sub_rv {b c : Nat} (hb : FinB b) (hc : FinB c) : ∃ g, double.sub b c = some (double.word g (rungOf (rv b - rv c).natAbs)) ∧ (0 < rv b - rv c → g = false) ∧ (rv b - rv c < 0 → g = true) := by
  obtain ⟨m, i, e1, h1, h2, _⟩ := read_fin hb
  obtain ⟨n, j, e2, h3, h4, _⟩ := read_fin hc
  have := sum_rv (negB b) (!negB c) m n i j h1 h3
  have e : sgnI (negB b) (units m i) + sgnI (!negB c) (units n j) = rv b - rv c := by
    unfold rv; rw [h2, h4]; unfold sgnI; cases negB b <;> cases negB c <;> simp <;> omega
  rw [e] at this
  unfold Format.sub
  rw [e1, e2]
  exact this
/-- a number and the whole one next to it. -/
theorem near_half {b : Nat} (h : FinB b) : ∃ d, double.sub (wholeB .even b) b = some d ∧ (double.order d 4602678819172646912 == some .gt) = false ∧ (double.order d 13826050856027422720 == some .lt) = false := by
  obtain ⟨hf, h2, h3⟩ := whole_fin .even h
  obtain ⟨g, hg, _⟩ := sub_rv hf h
  have hn : 2 * (wholeN .even b * T1) ≤ 2 * valR (magB b) + T1 ∧ 2 * valR (magB b) ≤ 2 * (wholeN .even b * T1) + T1 := even_near (negB b) (valR (magB b))
  have hd : (rv (wholeB .even b) - rv b).natAbs ≤ pw 1073 := by
    unfold rv; rw [h2, h3]
    have ht := T1_half'
    generalize wholeN .even b * T1 = A at *
    generalize valR (magB b) = N at *
    generalize negB b = s at *
    unfold sgnI
    cases s <;> simp <;> omega
  have hr := rung_le' _ 1073 (by decide) hd
  generalize (rv (wholeB .even b) - rv b).natAbs = D at *
  have hv := valR_mono hr
  rw [show (1073 - 51) * 4503599627370496 = (1021 + 1) * 4503599627370496 from rfl, valR_pow 1021] at hv
  have hl : rungOf D < 9218868437227405312 := by omega
  refine ⟨_, hg, ?_, ?_⟩
  · rw [order_fin (word_fin hl) half_rv.1, half_rv.2.1, word_rv hl, beq_eq_false_iff_ne]
    intro e
    have e1 := Int.compare_eq_gt.1 (Option.some.inj e)
    unfold sgnI at e1
    generalize pw 1073 = P at *
    cases g <;> simp at e1 <;> omega
  · rw [order_fin (word_fin hl) half_rv.2.2.1, half_rv.2.2.2, word_rv hl, beq_eq_false_iff_ne]
    intro e
    have e1 := Int.compare_eq_lt.1 (Option.some.inj e)
    unfold sgnI at e1
    generalize pw 1073 = P at *
    cases g <;> simp at e1 <;> omega
theorem zero_fin : FinB 0 ∧ rv 0 = 0 := ⟨by unfold FinB; decide, by decide⟩
/-- a number less itself is no other than 0. -/
theorem self_sub {b : Nat} (h : FinB b) : ∃ z, double.sub b b = some z ∧ double.order z 0 = some .eq := by
  obtain ⟨g, hg, _⟩ := sub_rv h h
  rw [Int.sub_self] at hg
  refine ⟨_, hg, ?_⟩
  have hl : rungOf (0 : Int).natAbs < 9218868437227405312 := by decide
  rw [order_fin (word_fin hl) zero_fin.1, zero_fin.2, word_rv hl]
  cases g <;> rfl

/-! ints -/
def intB (n : Int) : Nat := double.write (.number (decide (n < 0)) n.natAbs 0)
theorem int_rep {n : Nat} (h : n ≤ 9007199254740992) : rungOf (n * T1) < 9218868437227405312 ∧ valR (rungOf (n * T1)) = n * T1 := by
  by_cases h0 : n = 0
  · subst h0; rw [Nat.zero_mul]; exact ⟨by decide, by decide⟩
  · by_cases h1 : n = 9007199254740992
    · subst h1
      rw [← top_pow, ← valR_pow 1075, rungOf_valR _ (by decide)]
      exact ⟨by decide, rfl⟩
    · have h2 : n < 9007199254740992 := by omega
      have hl : n.log2 < 53 := (Nat.log2_lt h0).2 (by simpa using h2)
      have hr := rung_rep n 1074 h2 h0 (by omega)
      rw [← T1_pow] at hr
      exact hr
theorem int_rv {n : Int} (h : n.natAbs ≤ 9007199254740992) : FinB (intB n) ∧ rv (intB n) = n * (T1 : Int) ∧ negB (intB n) = decide (n < 0) ∧ valR (magB (intB n)) = n.natAbs * T1 := by
  have hr := int_rep h
  unfold intB
  rw [write_num _ _ _ (by omega), units_zero]
  refine ⟨word_fin hr.1, ?_, neg_word (by omega), by rw [mag_word (by omega)]; exact hr.2⟩
  rw [word_rv hr.1, hr.2, ← sgn_mul]
  congr 1
  unfold sgnI
  by_cases g : n < 0
  · rw [decide_eq_true g, if_pos rfl]; omega
  · rw [decide_eq_false g, if_neg (by decide)]; omega
/-- a number as an int. -/
def toI (b : Nat) : Int := sgnI (negB b) (wholeN .zero b)
theorem toInt_fin {b : Nat} (h : FinB b) : (double.read b).toInt .zero = some (toI b) := by
  obtain ⟨m, i, e1, h1, h2, _⟩ := read_fin h
  unfold Datum.toInt
  rw [e1, integral_units .zero _ _ _ h1, h2]
  simp only
  rw [signed_eq, Nat.pow_zero, Nat.mul_one]
  rfl
theorem toI_whole {b : Nat} (h : IsWhole b) : toI b * (T1 : Int) = rv b := by
  unfold toI rv
  rw [sgn_mul, whole_of .zero h]
theorem int_whole {n : Int} (h : n.natAbs ≤ 9007199254740992) : IsWhole (intB n) := by
  unfold IsWhole; rw [(int_rv h).2.2.2]; exact Nat.mul_mod_left _ _
theorem T1_posI : (0 : Int) < (T1 : Int) := by have := T1_pos; omega
theorem int_back {n : Int} (h : n.natAbs ≤ 9007199254740992) : toI (intB n) = n := by
  have h1 := toI_whole (int_whole h)
  rw [(int_rv h).2.1] at h1
  exact Int.eq_of_mul_eq_mul_right (by have := T1_posI; omega) h1
/-- the edges. -/
theorem le_top {b : Nat} (h : FinB b) : (double.order b 4845873199050653696 == some .gt) = decide ((9007199254740992 * T1 : Nat) < rv b) := by
  rw [order_fin h top_rv.1, top_rv.2.1, Bool.eq_iff_iff, beq_iff_eq, decide_eq_true_iff, Option.some.injEq, Int.compare_eq_gt]
theorem ge_low {b : Nat} (h : FinB b) : (double.order b 14069245235905429504 == some .lt) = decide (rv b < -((9007199254740992 * T1 : Nat) : Int)) := by
  rw [order_fin h top_rv.2.2.1, top_rv.2.2.2, Bool.eq_iff_iff, beq_iff_eq, decide_eq_true_iff, Option.some.injEq, Int.compare_eq_lt]
theorem toI_small {b : Nat} (hw : IsWhole b) (h1 : ¬ ((9007199254740992 * T1 : Nat) : Int) < rv b) (h2 : ¬ rv b < -((9007199254740992 * T1 : Nat) : Int)) : (toI b).natAbs ≤ 9007199254740992 := by
  rw [← toI_whole hw, Int.natCast_mul] at h1 h2
  have ht := T1_posI
  have h3 : toI b ≤ 9007199254740992 := Int.le_of_mul_le_mul_right (a := (T1 : Int)) (by simpa using h1) ht
  have h4 : -9007199254740992 ≤ toI b := Int.le_of_mul_le_mul_right (a := (T1 : Int)) (by rw [Int.neg_mul]; simpa using h2) ht
  omega
theorem int_eq {b : Nat} (h : FinB b) (hw : IsWhole b) (hs : (toI b).natAbs ≤ 9007199254740992) : double.order (intB (toI b)) b = some .eq := by
  rw [order_fin (int_rv hs).1 h, (int_rv hs).2.1, toI_whole hw, Int.compare_eq_eq.2 rfl]

/-! one divided by a number -/
theorem order_zero {s : Bool} {r : Nat} (h0 : r ≠ 0) (h : r ≤ 9218868437227405312) : (double.order (double.word s r) 0 == some .lt) = s := by
  by_cases h1 : r < 9218868437227405312
  · rw [order_fin (word_fin h1) zero_fin.1, zero_fin.2, word_rv h1]
    have hv : 0 < valR r := by
      have : valR r ≠ 0 := fun e => h0 (valR_zero e)
      omega
    rw [Bool.eq_iff_iff, beq_iff_eq, Option.some.injEq, Int.compare_eq_lt]
    unfold sgnI; cases s <;> simp <;> omega
  · obtain rfl : r = 9218868437227405312 := by omega
    cases s <;> decide +kernel
theorem rung_pos {N : Nat} (h : N ≠ 0) : rungOf N ≠ 0 ∧ rungOf N ≤ 9218868437227405312 := by
  refine ⟨?_, by unfold rungOf; split <;> omega⟩
  unfold rungOf
  rw [if_neg h]
  by_cases hc : N.log2 ≤ 52
  · rw [show N.log2 - 52 = 0 by omega, cutW_zero]; omega
  · have : 1 * 4503599627370496 ≤ (N.log2 - 52) * 4503599627370496 := Nat.mul_le_mul_right _ (by omega)
    omega
theorem read_one : double.read 4607182418800017408 = .number false 4503599627370496 (-52) := by decide +kernel
theorem inv_sign {b : Nat} (h : FinB b) (hs : 2 * valR (magB b) ≤ T1) : ∃ y, double.div 4607182418800017408 b = some y ∧ (double.order y 0 == some .lt) = negB b := by
  obtain ⟨n, j, e2, h3, h4, h5, h6⟩ := read_fin h
  unfold Format.div
  rw [e2, read_one]
  unfold Datum.quotient
  simp only [Bool.false_xor]
  by_cases h0 : n = 0
  · subst h0
    rw [if_pos rfl, if_neg (by decide)]
    refine ⟨_, rfl, ?_⟩
    exact order_zero (r := 9218868437227405312) (by decide) (Nat.le_refl _)
  · rw [if_neg h0]
    have hl : n.log2 < 53 := (Nat.log2_lt h0).2 (by simpa using h6)
    have hm : (4503599627370496 : Nat).log2 = 52 := by decide +kernel
    have hfb : double.fractionBits = 52 := rfl
    have hj : j ≤ -53 := by
      by_cases hc : n < 4503599627370496
      · have := h5 hc; omega
      · have h7 : 2 ^ 52 * pw (j + 1074).toNat ≤ n * pw (j + 1074).toNat := Nat.mul_le_mul_right _ (by rw [show (2 : Nat) ^ 52 = 4503599627370496 by decide]; omega)
        rw [pw_add, ← pw_eq, ← units_pw, h4] at h7
        have ht := T1_half'
        have h8 : pw (52 + (j + 1074).toNat) ≤ pw 1073 := by omega
        have h9 : 52 + (j + 1074).toNat ≤ 1073 := by
          apply Nat.le_of_not_lt
          intro hh
          have h10 := pw_le (show 1073 + 1 ≤ 52 + (j + 1074).toNat from hh)
          rw [pw_succ] at h10
          have := pw_pos 1073
          omega
        omega
    simp only [hm, hfb]
    refine ⟨_, rfl, ?_⟩
    rw [write_num _ _ _ (by omega)]
    have hq : 1 ≤ 4503599627370496 <<< (52 + 2 + n.log2 - 52) / n := by
      rw [Nat.shiftLeft_eq]
      apply (Nat.le_div_iff_mul_le (by omega)).2
      rw [Nat.one_mul]
      have h11 : n < 2 ^ (n.log2 + 1) := Nat.lt_log2_self
      have h12 : (2 : Nat) ^ (n.log2 + 1) ≤ 2 ^ (52 + 2 + n.log2 - 52) := Nat.pow_le_pow_right (by decide) (by omega)
      omega
    have hu : ∀ m i, 1 ≤ m → units m i ≠ 0 := by
      intro m i hm e
      unfold units at e
      have hp : 0 < 2 ^ (i + 1074).toNat := Nat.pow_pos (by decide)
      rcases Nat.mul_eq_zero.1 e with e | e <;> omega
    have hr := rung_pos (hu (2 * (4503599627370496 <<< (52 + 2 + n.log2 - 52) / n) + (4503599627370496 <<< (52 + 2 + n.log2 - 52) % n != 0).toNat) (-52 - j - ((52 + 2 + n.log2 - 52 : Nat) : Int) - 1) (by omega))
    exact order_zero hr.1 hr.2
/-- what is made 0. -/
theorem even_zero {b : Nat} (h : FinB b) (h0 : double.order (wholeB .even b) 0 = some .eq) : 2 * valR (magB b) ≤ T1 ∧ 2 * valR (magB (wholeB .even b)) ≤ T1 := by
  rw [order_fin (whole_fin .even h).1 zero_fin.1, zero_fin.2, whole_rv .even h] at h0
  have e := Int.compare_eq_eq.1 (Option.some.inj h0)
  have e2 : wholeN .even b * T1 = 0 := by unfold sgnI at e; cases negB b <;> simp at e ⊢ <;> omega
  have hn := even_near (negB b) (valR (magB b))
  refine ⟨?_, by rw [(whole_fin .even h).2.2, e2]; omega⟩
  unfold wholeN at e2
  omega
end Go.Proofs.YtfdkafmomkkapaaGreatDoor
