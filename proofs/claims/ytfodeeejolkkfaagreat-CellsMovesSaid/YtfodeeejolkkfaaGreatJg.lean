/- Lemmas and walks: Plain: doubles: differences, ints, one divided by a number. No program in this text. Plain: a number as an int: the ways. No program in this text. Plain: sums at the numbers' edges; kinds of numbers. No program in this text but the one sum of doubles. Walks: math.IsInf; cells are moved. Walks: cells are moved. Walks: cells are added to and moved, by any transaction. Walks: numbers as bytes, the least first. Walks: check sums. Walks: rows of bytes one behind the other in a new row. Walks: a frame's bytes. Walks: what a new device, store and world hold beside. Walks: a device whose zones hold blocks. -/
import Derived.Laws.BitsAllLaws
import Derived.Test.YtfodeeejolkkfaaGreatJd
import Derived.Test.YtfodeeejolkkfaaGreatJf
namespace Go.Proofs.YtfodeeejolkkfaaGreat
open Ieee

theorem valR_mono {r q : Nat} (h : r ≤ q) : valR r ≤ valR q := by
  unfold valR
  by_cases h1 : q < 4503599627370496
  · rw [if_pos h1, if_pos (by omega)]; exact h
  · rw [if_neg h1]
    by_cases h2 : r < 4503599627370496
    · rw [if_pos h2]
      have hp : 1 ≤ 2 ^ (q / 4503599627370496 - 1) := Nat.pow_pos (by decide)
      have := Nat.mul_le_mul_left (4503599627370496 + q % 4503599627370496) hp
      omega
    · rw [if_neg h2]
      by_cases h3 : r / 4503599627370496 = q / 4503599627370496
      · rw [h3]; exact Nat.mul_le_mul_right _ (by omega)
      · have h4 : r / 4503599627370496 < q / 4503599627370496 := by omega
        have e : (2 : Nat) ^ (q / 4503599627370496 - 1) = 2 ^ (r / 4503599627370496 - 1) * 2 ^ (q / 4503599627370496 - r / 4503599627370496) := by
          rw [← Nat.pow_add]; congr 1; omega
        have h5 : 2 ≤ 2 ^ (q / 4503599627370496 - r / 4503599627370496) := by
          have := Nat.pow_le_pow_right (n := 2) (by decide) (show 1 ≤ q / 4503599627370496 - r / 4503599627370496 by omega)
          simpa using this
        rw [e]
        have h6 : (4503599627370496 + r % 4503599627370496) * 2 ^ (r / 4503599627370496 - 1) ≤ (2 * 4503599627370496) * 2 ^ (r / 4503599627370496 - 1) := Nat.mul_le_mul_right _ (by omega)
        have h7 : 4503599627370496 * (2 ^ (r / 4503599627370496 - 1) * 2) ≤ (4503599627370496 + q % 4503599627370496) * (2 ^ (r / 4503599627370496 - 1) * 2 ^ (q / 4503599627370496 - r / 4503599627370496)) :=
          Nat.mul_le_mul (by omega) (Nat.mul_le_mul_left _ h5)
        have h8 : 2 * 4503599627370496 * 2 ^ (r / 4503599627370496 - 1) = 4503599627370496 * (2 ^ (r / 4503599627370496 - 1) * 2) := by
          generalize 2 ^ (r / 4503599627370496 - 1) = P; omega
        omega
theorem valR_pow (k : Nat) : valR ((k + 1) * 4503599627370496) = pw (52 + k) := by
  unfold valR
  rw [if_neg (by omega), show (k + 1) * 4503599627370496 % 4503599627370496 = 0 by omega, show (k + 1) * 4503599627370496 / 4503599627370496 - 1 = k by omega, Nat.add_zero, ← pw_eq k, ← pw_add', show (52 : Nat) + k = 52 + k from rfl]
theorem fin_num {b : Nat} (h : b < 9218868437227405312) : FinB b ∧ rv b = valR b ∧ FinB (9223372036854775808 + b) ∧ rv (9223372036854775808 + b) = -(valR b : Int) := by
  have w0 : double.word false b = b := by rw [word_eq]; rfl
  have w1 : double.word true b = 9223372036854775808 + b := by rw [word_eq]; rfl
  have f0 := word_fin (s := false) h
  have f1 := word_fin (s := true) h
  have r0 := word_rv (s := false) h
  have r1 := word_rv (s := true) h
  rw [w0] at f0 r0
  rw [w1] at f1 r1
  exact ⟨f0, r0, f1, r1⟩
theorem half_rv : FinB 4602678819172646912 ∧ rv 4602678819172646912 = (pw 1073 : Nat) ∧ FinB 13826050856027422720 ∧ rv 13826050856027422720 = -((pw 1073 : Nat) : Int) := by
  have h := @fin_num ((1021 + 1) * 4503599627370496) (by decide)
  rw [valR_pow 1021] at h
  exact h
theorem top_rv : FinB 4845873199050653696 ∧ rv 4845873199050653696 = (9007199254740992 * T1 : Nat) ∧ FinB 14069245235905429504 ∧ rv 14069245235905429504 = -((9007199254740992 * T1 : Nat) : Int) := by
  have h := @fin_num ((1075 + 1) * 4503599627370496) (by decide)
  rw [valR_pow 1075, show pw (52 + 1075) = 9007199254740992 * T1 from top_pow] at h
  exact h

/-! the difference -/
theorem sum_rv (s t : Bool) (m n : Nat) (i j : Int) (hi : -1074 ≤ i) (hj : -1074 ≤ j) :
    ∃ g, ((Datum.number s m i).sum (.number t n j)).map double.write = some (double.word g (rungOf (sgnI s (units m i) + sgnI t (units n j)).natAbs)) ∧
      (0 < sgnI s (units m i) + sgnI t (units n j) → g = false) ∧ (sgnI s (units m i) + sgnI t (units n j) < 0 → g = true) := by
  unfold Datum.sum
  simp only [Option.map_some]
  rw [write_num _ _ _ (by omega), signed_eq, signed_eq]
  have hk : (0 : Int) < ((2 ^ (min i j + 1074).toNat : Nat) : Int) := by
    have : 0 < 2 ^ (min i j + 1074).toNat := Nat.pow_pos (by decide)
    omega
  have e : (sgnI s (m * 2 ^ (i - min i j).toNat) + sgnI t (n * 2 ^ (j - min i j).toNat)) * ((2 ^ (min i j + 1074).toNat : Nat) : Int) = sgnI s (units m i) + sgnI t (units n j) := by
    rw [Int.add_mul, sgn_mul, sgn_mul, units_base _ _ _ (by omega) (by omega), units_base _ _ _ (by omega) (by omega)]
  have eu : units (sgnI s (m * 2 ^ (i - min i j).toNat) + sgnI t (n * 2 ^ (j - min i j).toNat)).natAbs (min i j) = (sgnI s (units m i) + sgnI t (units n j)).natAbs := by
    rw [← e, Int.natAbs_mul, Int.natAbs_natCast]
    rfl
  refine ⟨_, congrArg some (congrArg _ (congrArg rungOf eu)), ?_, ?_⟩
  · intro h
    rw [← e] at h
    have h2 := Int.pos_of_mul_pos_left h hk
    rw [if_neg (by omega)]; exact decide_eq_false (by omega)
  · intro h
    rw [← e] at h
    have h2 := Int.neg_of_mul_neg_left h hk
    rw [if_neg (by omega)]; exact decide_eq_true h2
theorem sub_rv {b c : Nat} (hb : FinB b) (hc : FinB c) : ∃ g, double.sub b c = some (double.word g (rungOf (rv b - rv c).natAbs)) ∧ (0 < rv b - rv c → g = false) ∧ (rv b - rv c < 0 → g = true) := by
  obtain ⟨m, i, e1, h1, h2, _⟩ := read_fin hb
  obtain ⟨n, j, e2, h3, h4, _⟩ := read_fin hc
  have := sum_rv (negB b) (!negB c) m n i j h1 h3
  have e : sgnI (negB b) (units m i) + sgnI (!negB c) (units n j) = rv b - rv c := by
    unfold rv; rw [h2, h4]; unfold sgnI; cases negB b <;> cases negB c <;> simp <;> omega
  rw [e] at this
  unfold Format.sub
  rw [e1, e2]
  exact this
/-- a number and the whole one next to it. -/
theorem near_half {b : Nat} (h : FinB b) : ∃ d, double.sub (wholeB .even b) b = some d ∧ (double.order d 4602678819172646912 == some .gt) = false ∧ (double.order d 13826050856027422720 == some .lt) = false := by
  obtain ⟨hf, h2, h3⟩ := whole_fin .even h
  obtain ⟨g, hg, _⟩ := sub_rv hf h
  have hn : 2 * (wholeN .even b * T1) ≤ 2 * valR (magB b) + T1 ∧ 2 * valR (magB b) ≤ 2 * (wholeN .even b * T1) + T1 := even_near (negB b) (valR (magB b))
  have hd : (rv (wholeB .even b) - rv b).natAbs ≤ pw 1073 := by
    unfold rv; rw [h2, h3]
    have ht := T1_half'
    generalize wholeN .even b * T1 = A at *
    generalize valR (magB b) = N at *
    generalize negB b = s at *
    unfold sgnI
    cases s <;> simp <;> omega
  have hr := rung_le' _ 1073 (by decide) hd
  generalize (rv (wholeB .even b) - rv b).natAbs = D at *
  have hv := valR_mono hr
  rw [show (1073 - 51) * 4503599627370496 = (1021 + 1) * 4503599627370496 from rfl, valR_pow 1021] at hv
  have hl : rungOf D < 9218868437227405312 := by omega
  refine ⟨_, hg, ?_, ?_⟩
  · rw [order_fin (word_fin hl) half_rv.1, half_rv.2.1, word_rv hl, beq_eq_false_iff_ne]
    intro e
    have e1 := Int.compare_eq_gt.1 (Option.some.inj e)
    unfold sgnI at e1
    generalize pw 1073 = P at *
    cases g <;> simp at e1 <;> omega
  · rw [order_fin (word_fin hl) half_rv.2.2.1, half_rv.2.2.2, word_rv hl, beq_eq_false_iff_ne]
    intro e
    have e1 := Int.compare_eq_lt.1 (Option.some.inj e)
    unfold sgnI at e1
    generalize pw 1073 = P at *
    cases g <;> simp at e1 <;> omega
theorem zero_fin : FinB 0 ∧ rv 0 = 0 := ⟨by unfold FinB; decide, by decide⟩
/-- a number less itself is no other than 0. -/
theorem self_sub {b : Nat} (h : FinB b) : ∃ z, double.sub b b = some z ∧ double.order z 0 = some .eq := by
  obtain ⟨g, hg, _⟩ := sub_rv h h
  rw [Int.sub_self] at hg
  refine ⟨_, hg, ?_⟩
  have hl : rungOf (0 : Int).natAbs < 9218868437227405312 := by decide
  rw [order_fin (word_fin hl) zero_fin.1, zero_fin.2, word_rv hl]
  cases g <;> rfl

/-! ints -/
def intB (n : Int) : Nat := double.write (.number (decide (n < 0)) n.natAbs 0)
theorem int_rep {n : Nat} (h : n ≤ 9007199254740992) : rungOf (n * T1) < 9218868437227405312 ∧ valR (rungOf (n * T1)) = n * T1 := by
  by_cases h0 : n = 0
  · subst h0; rw [Nat.zero_mul]; exact ⟨by decide, by decide⟩
  · by_cases h1 : n = 9007199254740992
    · subst h1
      rw [← top_pow, ← valR_pow 1075, rungOf_valR _ (by decide)]
      exact ⟨by decide, rfl⟩
    · have h2 : n < 9007199254740992 := by omega
      have hl : n.log2 < 53 := (Nat.log2_lt h0).2 (by simpa using h2)
      have hr := rung_rep n 1074 h2 h0 (by omega)
      rw [← T1_pow] at hr
      exact hr
theorem int_rv {n : Int} (h : n.natAbs ≤ 9007199254740992) : FinB (intB n) ∧ rv (intB n) = n * (T1 : Int) ∧ negB (intB n) = decide (n < 0) ∧ valR (magB (intB n)) = n.natAbs * T1 := by
  have hr := int_rep h
  unfold intB
  rw [write_num _ _ _ (by omega), units_zero]
  refine ⟨word_fin hr.1, ?_, neg_word (by omega), by rw [mag_word (by omega)]; exact hr.2⟩
  rw [word_rv hr.1, hr.2, ← sgn_mul]
  congr 1
  unfold sgnI
  by_cases g : n < 0
  · rw [decide_eq_true g, if_pos rfl]; omega
  · rw [decide_eq_false g, if_neg (by decide)]; omega
/-- a number as an int. -/
def toI (b : Nat) : Int := sgnI (negB b) (wholeN .zero b)
theorem toInt_fin {b : Nat} (h : FinB b) : (double.read b).toInt .zero = some (toI b) := by
  obtain ⟨m, i, e1, h1, h2, _⟩ := read_fin h
  unfold Datum.toInt
  rw [e1, integral_units .zero _ _ _ h1, h2]
  simp only
  rw [signed_eq, Nat.pow_zero, Nat.mul_one]
  rfl
theorem toI_whole {b : Nat} (h : IsWhole b) : toI b * (T1 : Int) = rv b := by
  unfold toI rv
  rw [sgn_mul, whole_of .zero h]
theorem int_whole {n : Int} (h : n.natAbs ≤ 9007199254740992) : IsWhole (intB n) := by
  unfold IsWhole; rw [(int_rv h).2.2.2]; exact Nat.mul_mod_left _ _
theorem T1_posI : (0 : Int) < (T1 : Int) := by have := T1_pos; omega
theorem int_back {n : Int} (h : n.natAbs ≤ 9007199254740992) : toI (intB n) = n := by
  have h1 := toI_whole (int_whole h)
  rw [(int_rv h).2.1] at h1
  exact Int.eq_of_mul_eq_mul_right (by have := T1_posI; omega) h1
/-- the edges. -/
theorem le_top {b : Nat} (h : FinB b) : (double.order b 4845873199050653696 == some .gt) = decide ((9007199254740992 * T1 : Nat) < rv b) := by
  rw [order_fin h top_rv.1, top_rv.2.1, Bool.eq_iff_iff, beq_iff_eq, decide_eq_true_iff, Option.some.injEq, Int.compare_eq_gt]
theorem ge_low {b : Nat} (h : FinB b) : (double.order b 14069245235905429504 == some .lt) = decide (rv b < -((9007199254740992 * T1 : Nat) : Int)) := by
  rw [order_fin h top_rv.2.2.1, top_rv.2.2.2, Bool.eq_iff_iff, beq_iff_eq, decide_eq_true_iff, Option.some.injEq, Int.compare_eq_lt]
theorem toI_small {b : Nat} (hw : IsWhole b) (h1 : ¬ ((9007199254740992 * T1 : Nat) : Int) < rv b) (h2 : ¬ rv b < -((9007199254740992 * T1 : Nat) : Int)) : (toI b).natAbs ≤ 9007199254740992 := by
  rw [← toI_whole hw, Int.natCast_mul] at h1 h2
  have ht := T1_posI
  have h3 : toI b ≤ 9007199254740992 := Int.le_of_mul_le_mul_right (a := (T1 : Int)) (by simpa using h1) ht
  have h4 : -9007199254740992 ≤ toI b := Int.le_of_mul_le_mul_right (a := (T1 : Int)) (by rw [Int.neg_mul]; simpa using h2) ht
  omega
theorem int_eq {b : Nat} (h : FinB b) (hw : IsWhole b) (hs : (toI b).natAbs ≤ 9007199254740992) : double.order (intB (toI b)) b = some .eq := by
  rw [order_fin (int_rv hs).1 h, (int_rv hs).2.1, toI_whole hw, Int.compare_eq_eq.2 rfl]

/-! one divided by a number -/
theorem order_zero {s : Bool} {r : Nat} (h0 : r ≠ 0) (h : r ≤ 9218868437227405312) : (double.order (double.word s r) 0 == some .lt) = s := by
  by_cases h1 : r < 9218868437227405312
  · rw [order_fin (word_fin h1) zero_fin.1, zero_fin.2, word_rv h1]
    have hv : 0 < valR r := by
      have : valR r ≠ 0 := fun e => h0 (valR_zero e)
      omega
    rw [Bool.eq_iff_iff, beq_iff_eq, Option.some.injEq, Int.compare_eq_lt]
    unfold sgnI; cases s <;> simp <;> omega
  · obtain rfl : r = 9218868437227405312 := by omega
    cases s <;> decide +kernel
theorem rung_pos {N : Nat} (h : N ≠ 0) : rungOf N ≠ 0 ∧ rungOf N ≤ 9218868437227405312 := by
  refine ⟨?_, by unfold rungOf; split <;> omega⟩
  unfold rungOf
  rw [if_neg h]
  by_cases hc : N.log2 ≤ 52
  · rw [show N.log2 - 52 = 0 by omega, cutW_zero]; omega
  · have : 1 * 4503599627370496 ≤ (N.log2 - 52) * 4503599627370496 := Nat.mul_le_mul_right _ (by omega)
    omega
theorem read_one : double.read 4607182418800017408 = .number false 4503599627370496 (-52) := by decide +kernel
theorem inv_sign {b : Nat} (h : FinB b) (hs : 2 * valR (magB b) ≤ T1) : ∃ y, double.div 4607182418800017408 b = some y ∧ (double.order y 0 == some .lt) = negB b := by
  obtain ⟨n, j, e2, h3, h4, h5, h6⟩ := read_fin h
  unfold Format.div
  rw [e2, read_one]
  unfold Datum.quotient
  simp only [Bool.false_xor]
  by_cases h0 : n = 0
  · subst h0
    rw [if_pos rfl, if_neg (by decide)]
    refine ⟨_, rfl, ?_⟩
    exact order_zero (r := 9218868437227405312) (by decide) (Nat.le_refl _)
  · rw [if_neg h0]
    have hl : n.log2 < 53 := (Nat.log2_lt h0).2 (by simpa using h6)
    have hm : (4503599627370496 : Nat).log2 = 52 := by decide +kernel
    have hfb : double.fractionBits = 52 := rfl
    have hj : j ≤ -53 := by
      by_cases hc : n < 4503599627370496
      · have := h5 hc; omega
      · have h7 : 2 ^ 52 * pw (j + 1074).toNat ≤ n * pw (j + 1074).toNat := Nat.mul_le_mul_right _ (by rw [show (2 : Nat) ^ 52 = 4503599627370496 by decide]; omega)
        rw [pw_add, ← pw_eq, ← units_pw, h4] at h7
        have ht := T1_half'
        have h8 : pw (52 + (j + 1074).toNat) ≤ pw 1073 := by omega
        have h9 : 52 + (j + 1074).toNat ≤ 1073 := by
          apply Nat.le_of_not_lt
          intro hh
          have h10 := pw_le (show 1073 + 1 ≤ 52 + (j + 1074).toNat from hh)
          rw [pw_succ] at h10
          have := pw_pos 1073
          omega
        omega
    simp only [hm, hfb]
    refine ⟨_, rfl, ?_⟩
    rw [write_num _ _ _ (by omega)]
    have hq : 1 ≤ 4503599627370496 <<< (52 + 2 + n.log2 - 52) / n := by
      rw [Nat.shiftLeft_eq]
      apply (Nat.le_div_iff_mul_le (by omega)).2
      rw [Nat.one_mul]
      have h11 : n < 2 ^ (n.log2 + 1) := Nat.lt_log2_self
      have h12 : (2 : Nat) ^ (n.log2 + 1) ≤ 2 ^ (52 + 2 + n.log2 - 52) := Nat.pow_le_pow_right (by decide) (by omega)
      omega
    have hu : ∀ m i, 1 ≤ m → units m i ≠ 0 := by
      intro m i hm e
      unfold units at e
      have hp : 0 < 2 ^ (i + 1074).toNat := Nat.pow_pos (by decide)
      rcases Nat.mul_eq_zero.1 e with e | e <;> omega
    have hr := rung_pos (hu (2 * (4503599627370496 <<< (52 + 2 + n.log2 - 52) / n) + (4503599627370496 <<< (52 + 2 + n.log2 - 52) % n != 0).toNat) (-52 - j - ((52 + 2 + n.log2 - 52 : Nat) : Int) - 1) (by omega))
    exact order_zero hr.1 hr.2
/-- what is made 0. -/
theorem even_zero {b : Nat} (h : FinB b) (h0 : double.order (wholeB .even b) 0 = some .eq) : 2 * valR (magB b) ≤ T1 ∧ 2 * valR (magB (wholeB .even b)) ≤ T1 := by
  rw [order_fin (whole_fin .even h).1 zero_fin.1, zero_fin.2, whole_rv .even h] at h0
  have e := Int.compare_eq_eq.1 (Option.some.inj h0)
  have e2 : wholeN .even b * T1 = 0 := by unfold sgnI at e; cases negB b <;> simp at e ⊢ <;> omega
  have hn := even_near (negB b) (valR (magB b))
  refine ⟨?_, by rw [(whole_fin .even h).2.2, e2]; omega⟩
  unfold wholeN at e2
  omega
end Go.Proofs.YtfodeeejolkkfaaGreat
namespace Go.Proofs.YtfodeeejolkkfaaGreat
open Ieee

/-- a number that is an int within the edges. -/
def OkI (b : Nat) : Prop := FinB b ∧ IsWhole b ∧ ¬ rv b < -((9007199254740992 * T1 : Nat) : Int) ∧ ¬ ((9007199254740992 * T1 : Nat) : Int) < rv b
theorem okI_small {b : Nat} (h : OkI b) : (toI b).natAbs ≤ 9007199254740992 := toI_small h.2.1 h.2.2.2 h.2.2.1
theorem read_inf {b : Nat} (h : b < 18446744073709551616) (hm : magB b = 9218868437227405312) : double.read b = .infinity (negB b) := by
  have hw := word_self h
  rw [hm] at hw
  rw [← hw]
  cases negB b <;> decide +kernel
theorem nan_order {b : Nat} (h : isNaNB b = true) (c : Nat) : double.order b c = none := by
  have hn := read_nan (b := b)
  rw [h] at hn
  unfold Format.order
  generalize double.read b = d at *
  cases d with
  | nan s t => cases double.read c <;> rfl
  | number s m e => cases hn
  | infinity s => cases hn
theorem kinds {b : Nat} (h : b < 18446744073709551616) : isNaNB b = true ∨ (isNaNB b = false ∧ magB b = 9218868437227405312) ∨ (isNaNB b = false ∧ FinB b) := by
  unfold isNaNB FinB
  rcases Nat.lt_trichotomy (magB b) 9218868437227405312 with h1 | h1 | h1
  · exact Or.inr (Or.inr ⟨decide_eq_false (by omega), h, h1⟩)
  · exact Or.inr (Or.inl ⟨decide_eq_false (by omega), h1⟩)
  · exact Or.inl (decide_eq_true h1)
theorem fin_not_nan {b : Nat} (h : FinB b) : isNaNB b = false := decide_eq_false (by have := h.2; omega)
theorem inf_not_ok {b : Nat} (h : magB b = 9218868437227405312) : ¬ OkI b := fun g => by have := g.1.2; omega
theorem nan_not_ok {b : Nat} (h : isNaNB b = true) : ¬ OkI b := fun g => by rw [fin_not_nan g.1] at h; cases h
theorem int_split {b : Nat} (h : b < 18446744073709551616) :
    (isNaNB b = true ∧ ¬ OkI b ∧ double.order b 14069245235905429504 = none ∧ double.order b 4845873199050653696 = none) ∨
    (isNaNB b = false ∧ ¬ OkI b ∧ double.order b 14069245235905429504 = some .lt ∧ double.order b 4845873199050653696 = some .lt) ∨
    (isNaNB b = false ∧ ¬ OkI b ∧ double.order b 14069245235905429504 = some .gt ∧ double.order b 4845873199050653696 = some .gt) ∨
    (isNaNB b = false ∧ FinB b ∧ (OkI b ↔ IsWhole b) ∧ (double.order b 14069245235905429504 = some .gt ∨ double.order b 14069245235905429504 = some .eq) ∧ (double.order b 4845873199050653696 = some .lt ∨ double.order b 4845873199050653696 = some .eq)) := by
  rcases kinds h with hn | ⟨hn, hi⟩ | ⟨hn, hf⟩
  · exact Or.inl ⟨hn, nan_not_ok hn, nan_order hn _, nan_order hn _⟩
  · have hr := read_inf h hi
    have hk := inf_not_ok hi
    have o1 : double.order b 14069245235905429504 = (Datum.infinity (negB b)).order (double.read 14069245235905429504) := by unfold Format.order; rw [hr]
    have o2 : double.order b 4845873199050653696 = (Datum.infinity (negB b)).order (double.read 4845873199050653696) := by unfold Format.order; rw [hr]
    rw [o1, o2]
    cases negB b
    · exact Or.inr (Or.inr (Or.inl ⟨hn, hk, by decide +kernel, by decide +kernel⟩))
    · exact Or.inr (Or.inl ⟨hn, hk, by decide +kernel, by decide +kernel⟩)
  · have o1 := order_fin hf top_rv.2.2.1
    have o2 := order_fin hf top_rv.1
    rw [top_rv.2.2.2] at o1
    rw [top_rv.2.1] at o2
    have hT : (0 : Int) < ((9007199254740992 * T1 : Nat) : Int) := by have := T1_pos; omega
    have hok : OkI b ↔ (IsWhole b ∧ ¬ rv b < -((9007199254740992 * T1 : Nat) : Int) ∧ ¬ ((9007199254740992 * T1 : Nat) : Int) < rv b) := ⟨fun h => h.2, fun h => ⟨hf, h⟩⟩
    generalize ((9007199254740992 * T1 : Nat) : Int) = E at *
    rcases Int.lt_trichotomy (rv b) (-E) with h1 | h1 | h1
    · refine Or.inr (Or.inl ⟨hn, fun g => (hok.1 g).2.1 h1, ?_, ?_⟩)
      · rw [o1, Int.compare_eq_lt.2 h1]
      · rw [o2, Int.compare_eq_lt.2 (by omega)]
    · refine Or.inr (Or.inr (Or.inr ⟨hn, hf, ?_, Or.inr ?_, Or.inl ?_⟩))
      · rw [hok]; exact ⟨fun h => h.1, fun h => ⟨h, by omega, by omega⟩⟩
      · rw [o1, Int.compare_eq_eq.2 h1]
      · rw [o2, Int.compare_eq_lt.2 (by omega)]
    · rcases Int.lt_trichotomy (rv b) E with h2 | h2 | h2
      · refine Or.inr (Or.inr (Or.inr ⟨hn, hf, ?_, Or.inl ?_, Or.inl ?_⟩))
        · rw [hok]; exact ⟨fun h => h.1, fun h => ⟨h, by omega, by omega⟩⟩
        · rw [o1, Int.compare_eq_gt.2 h1]
        · rw [o2, Int.compare_eq_lt.2 h2]
      · refine Or.inr (Or.inr (Or.inr ⟨hn, hf, ?_, Or.inl ?_, Or.inr ?_⟩))
        · rw [hok]; exact ⟨fun h => h.1, fun h => ⟨h, by omega, by omega⟩⟩
        · rw [o1, Int.compare_eq_gt.2 h1]
        · rw [o2, Int.compare_eq_eq.2 h2]
      · refine Or.inr (Or.inr (Or.inl ⟨hn, fun g => (hok.1 g).2.2 h2, ?_, ?_⟩))
        · rw [o1, Int.compare_eq_gt.2 h1]
        · rw [o2, Int.compare_eq_gt.2 h2]
/-- the whole number next to a number; any NaN is the one. -/
def rndF (b : Nat) : Nat := if isNaNB b then nanB else wholeB .even b
theorem inf_whole (way : Toward) {b : Nat} (h : b < 18446744073709551616) (hm : magB b = 9218868437227405312) : wholeB way b = b := by
  have hw := word_self h
  unfold wholeB
  rw [read_inf h hm]
  rw [hm] at hw
  exact hw
theorem rndF_fin {b : Nat} (h : FinB b) : rndF b = wholeB .even b := if_neg (by rw [fin_not_nan h]; decide)
theorem rndF_can {b : Nat} (h : b < 18446744073709551616) : CanB (rndF b) := by
  unfold rndF
  rcases kinds h with hn | ⟨hn, hi⟩ | ⟨hn, hf⟩
  · rw [if_pos hn]; exact ⟨by decide, fun _ => rfl⟩
  · rw [hn, if_neg (by decide), inf_whole .even h hi]; exact ⟨h, fun g => by rw [hn] at g; cases g⟩
  · rw [hn, if_neg (by decide)]
    have hw := (whole_fin .even hf).1
    exact ⟨hw.1, fun g => by rw [fin_not_nan hw] at g; cases g⟩
theorem rndF_again {b : Nat} (h : b < 18446744073709551616) : rndF (rndF b) = rndF b := by
  rcases kinds h with hn | ⟨hn, hi⟩ | ⟨hn, hf⟩
  · have : rndF b = nanB := if_pos hn
    rw [this]; exact if_pos (by decide +kernel)
  · have : rndF b = b := by unfold rndF; rw [hn, if_neg (by decide), inf_whole .even h hi]
    rw [this, this]
  · rw [rndF_fin hf, rndF_fin (whole_fin .even hf).1, whole_self .even (whole_fin .even hf).1 (whole_is .even hf)]
theorem inf_self {b : Nat} (h : b < 18446744073709551616) (hm : magB b = 9218868437227405312) : double.sub b b = none := by
  unfold Format.sub
  rw [read_inf h hm]
  cases negB b <;> rfl
end Go.Proofs.YtfodeeejolkkfaaGreat
namespace Go.Proofs.YtfodeeejolkkfaaGreat
open Go.RowKit Go.Lib Ieee

theorem cls_nan {v : Nat} (h : isNaNB v = true) : clsV v = 1 := by
  unfold clsV
  rw [if_pos (of_decide_eq_true h)]
theorem neg_ge {v : Nat} (h : negB v = true) : 9223372036854775808 ≤ v := of_decide_eq_true h
theorem neg_lt {v : Nat} (h : negB v = false) : ¬ 9223372036854775808 ≤ v := of_decide_eq_false h
theorem clsM_inf {m : Nat} (h : m = 9218868437227405312) : clsM m = 9 := by unfold clsM; rw [if_neg (by omega), if_pos h]
theorem cls_inf {v : Nat} (h : magB v = 9218868437227405312) : clsV v = if negB v then 2 else 9 := by
  unfold clsV
  rw [if_neg (by omega), clsM_inf h]
  cases hn : negB v with
  | true => rw [if_pos (neg_ge hn)]; rfl
  | false => rw [if_neg (neg_lt hn)]; rfl
theorem clsM_fin {m : Nat} (h : m < 9218868437227405312) : 6 ≤ clsM m ∧ clsM m ≤ 8 ∧ (clsM m = 6 ↔ m = 0) := by
  unfold clsM
  rw [if_neg (by omega), if_neg (by omega)]
  by_cases h0 : m = 0
  · rw [if_pos h0]; exact ⟨by omega, by omega, by simp [h0]⟩
  · rw [if_neg h0]
    by_cases h1 : m < 4503599627370496
    · rw [if_pos h1]; exact ⟨by omega, by omega, by constructor <;> intro h <;> omega⟩
    · rw [if_neg h1]; exact ⟨by omega, by omega, by constructor <;> intro h <;> omega⟩
theorem cls_fin {v : Nat} (h : FinB v) : 3 ≤ clsV v ∧ clsV v ≤ 8 ∧ (clsV v = 5 → v = 9223372036854775808) := by
  have hm := h.2
  obtain ⟨h1, h2, h3⟩ := clsM_fin hm
  unfold clsV
  rw [if_neg (by omega)]
  by_cases hs : 9223372036854775808 ≤ v
  · rw [if_pos hs]
    refine ⟨by omega, by omega, fun h5 => ?_⟩
    have h0 := h3.1 (by omega)
    unfold magB at h0
    have := h.1
    omega
  · rw [if_neg hs]
    exact ⟨by omega, by omega, fun h5 => by omega⟩
theorem read_isnan {b : Nat} (h : isNaNB b = true) : ∃ s t, double.read b = .nan s t := by
  have := @read_nan b
  rw [h] at this
  cases hr : double.read b with
  | nan s t => exact ⟨s, t, rfl⟩
  | number s m i => rw [hr] at this; cases this
  | infinity s => rw [hr] at this; cases this
theorem add_nan_l {a b : Nat} (h : isNaNB a = true) : addC a b = nanB := by
  obtain ⟨s, t, hr⟩ := read_isnan h
  have : double.add a b = none := by unfold Format.add; rw [hr]; rfl
  unfold addC; rw [this]
theorem add_nan_r {a b : Nat} (h : isNaNB b = true) : addC a b = nanB := by
  obtain ⟨s, t, hr⟩ := read_isnan h
  have : double.add a b = none := by unfold Format.add; rw [hr]; cases double.read a <;> rfl
  unfold addC; rw [this]
/-- an infinity. -/
def infS (s : Bool) : Nat := if s then 18442240474082181120 else 9218868437227405312
theorem write_inf (s : Bool) : double.write (.infinity s) = infS s := by cases s <;> decide +kernel
theorem canB_inf (s : Bool) : canB (infS s) = infS s := by cases s <;> decide +kernel
theorem mag_inf (s : Bool) : magB (infS s) = 9218868437227405312 := by cases s <;> decide +kernel
theorem cls_infS (s : Bool) : clsV (infS s) = if s then 2 else 9 := by cases s <;> decide +kernel
theorem infS_lt (s : Bool) : infS s < 18446744073709551616 := by cases s <;> decide
theorem add_inf_apart {a b : Nat} (ha : a < 18446744073709551616) (hb : b < 18446744073709551616) (h1 : magB a = 9218868437227405312) (h2 : magB b = 9218868437227405312) (hn : negB a ≠ negB b) : addC a b = nanB := by
  have : double.add a b = none := by unfold Format.add; rw [read_inf ha h1, read_inf hb h2]; simp [Datum.sum, hn]
  unfold addC; rw [this]
theorem add_inf_same {a b : Nat} (ha : a < 18446744073709551616) (hb : b < 18446744073709551616) (h1 : magB a = 9218868437227405312) (h2 : magB b = 9218868437227405312) (hn : negB a = negB b) : addC a b = infS (negB a) := by
  have : double.add a b = some (infS (negB a)) := by unfold Format.add; rw [read_inf ha h1, read_inf hb h2, hn]; simp [Datum.sum, write_inf]
  unfold addC; rw [this]; exact canB_inf _
theorem add_inf_l {a b : Nat} (ha : a < 18446744073709551616) (h1 : magB a = 9218868437227405312) (h2 : FinB b) : addC a b = infS (negB a) := by
  obtain ⟨m, i, hr, -⟩ := read_fin h2
  have : double.add a b = some (infS (negB a)) := by unfold Format.add; rw [read_inf ha h1, hr]; simp [Datum.sum, write_inf]
  unfold addC; rw [this]; exact canB_inf _
theorem add_inf_r {a b : Nat} (hb : b < 18446744073709551616) (h2 : magB b = 9218868437227405312) (h1 : FinB a) : addC a b = infS (negB b) := by
  obtain ⟨m, i, hr, -⟩ := read_fin h1
  have : double.add a b = some (infS (negB b)) := by unfold Format.add; rw [read_inf hb h2, hr]; simp [Datum.sum, write_inf]
  unfold addC; rw [this]; exact canB_inf _
theorem add_zeros : addC 9223372036854775808 9223372036854775808 = 9223372036854775808 := by decide +kernel
theorem run_sub_inf {b : Nat} (h : Ieee.double.sub b b = none) (w : World) : ∃ c, isNaNB c = true ∧ (binOp .sub 42 (.float .f64 b) (.float .f64 b)).run Tryz.prog w = .ok (.float .f64 c) w.drew := by
  refine ⟨(Question.nanBits .f64 b b).cut (w.tape w.drawn (.nanBits .f64 b b)), ?_, ?_⟩
  · show isNaNB ((w.tape w.drawn (.nanBits .f64 b b) % 2) * 9223372036854775808 + 9218868437227405312 + 1 + (w.tape w.drawn (.nanBits .f64 b b) / 2) % 4503599627370495) = true
    have h1 : w.tape w.drawn (.nanBits .f64 b b) % 2 < 2 := Nat.mod_lt _ (by decide)
    have h2 : (w.tape w.drawn (.nanBits .f64 b b) / 2) % 4503599627370495 < 4503599627370495 := Nat.mod_lt _ (by decide)
    generalize w.tape w.drawn (.nanBits .f64 b b) % 2 = u at *
    generalize (w.tape w.drawn (.nanBits .f64 b b) / 2) % 4503599627370495 = q at *
    unfold isNaNB magB
    refine decide_eq_true ?_
    rcases (by omega : u = 0 ∨ u = 1) with rfl | rfl <;> omega
  · have h' : FloatKind.f64.format.sub b b = none := h
    simp [binOp, Op.floatArith, h', Question.forced]
theorem nan_ne_zero {c : Nat} (h : isNaNB c = true) : (FloatKind.f64.format.order c 0 != some .eq) = true := by
  have : FloatKind.f64.format.order c 0 = none := nan_order h 0
  rw [this]; rfl
end Go.Proofs.YtfodeeejolkkfaaGreat
namespace Go.Proofs.YtfodeeejolkkfaaGreat
open Go.RowKit Go.Lib Ieee

/-- a number turned in its sign. -/
def negF (b : Nat) : Nat := b ^^^ 2 ^ 63
theorem negF_pos {b : Nat} (h : b < 9223372036854775808) : negF b = 9223372036854775808 + b := by
  unfold negF
  apply Nat.eq_of_testBit_eq
  intro i
  rw [Nat.testBit_xor, Nat.testBit_two_pow, show 9223372036854775808 + b = 2 ^ 63 + b from rfl]
  rcases Nat.lt_trichotomy i 63 with h1 | h1 | h1
  · rw [Nat.testBit_two_pow_add_gt h1]
    have : ¬ 63 = i := by omega
    simp [this]
  · subst h1
    rw [Nat.testBit_two_pow_add_eq]
    simp
  · have e : 2 ^ 64 ≤ 2 ^ i := Nat.pow_le_pow_right (by decide) h1
    have e64 : (2 : Nat) ^ 64 = 18446744073709551616 := by decide
    have e63 : (2 : Nat) ^ 63 = 9223372036854775808 := by decide
    rw [Nat.testBit_lt_two_pow (x := b) (by omega), Nat.testBit_lt_two_pow (x := 2 ^ 63 + b) (by omega)]
    have : ¬ 63 = i := by omega
    simp [this]
theorem negF_neg {b : Nat} (h0 : 9223372036854775808 ≤ b) (h : b < 18446744073709551616) : negF b = b - 9223372036854775808 := by
  obtain ⟨c, rfl⟩ : ∃ c, b = 9223372036854775808 + c := ⟨b - 9223372036854775808, by omega⟩
  have hc : c < 9223372036854775808 := by omega
  rw [← negF_pos hc]
  unfold negF
  rw [Nat.xor_assoc, Nat.xor_self, Nat.xor_zero]
  have := negF_pos hc
  unfold negF at this
  rw [this]; omega
theorem negF_lt {b : Nat} (h : b < 18446744073709551616) : negF b < 18446744073709551616 := by
  by_cases h0 : 9223372036854775808 ≤ b
  · rw [negF_neg h0 h]; omega
  · rw [negF_pos (by omega)]; omega
theorem signW : double.signWeight = 9223372036854775808 := by decide
theorem read_negF {b : Nat} (h : b < 18446744073709551616) : double.read (negF b) = (double.read b).opposite := by
  have e1 : negF b % 9223372036854775808 = b % 9223372036854775808 := by
    by_cases h0 : 9223372036854775808 ≤ b
    · rw [negF_neg h0 h]; omega
    · rw [negF_pos (by omega)]; omega
  have e2 : (negF b / 9223372036854775808 % 2 == 1) = !(b / 9223372036854775808 % 2 == 1) := by
    by_cases h0 : 9223372036854775808 ≤ b
    · rw [negF_neg h0 h, show (b - 9223372036854775808) / 9223372036854775808 % 2 = 0 by omega, show b / 9223372036854775808 % 2 = 1 by omega]; rfl
    · rw [negF_pos (by omega), show (9223372036854775808 + b) / 9223372036854775808 % 2 = 1 by omega, show b / 9223372036854775808 % 2 = 0 by omega]; rfl
  unfold Format.read
  rw [signW, e1, e2]
  simp only []
  split
  · rfl
  · split
    · rfl
    · split <;> rfl
theorem add_neg (b : Nat) {x : Nat} (h : x < 18446744073709551616) : double.add b (negF x) = double.sub b x := by
  unfold Format.add Format.sub
  rw [read_negF h]
/-- five. -/
def fiveB : Nat := 4617315517961601024
theorem five_fin : FinB fiveB := by unfold FinB; decide
theorem order_some {d : Nat} (h : d < 18446744073709551616) (hn : isNaNB d = false) : ∃ o, double.order d 0 = some o := by
  rcases kinds h with hN | ⟨-, hI⟩ | ⟨-, hF⟩
  · rw [hN] at hn; cases hn
  · obtain ⟨m, i, hr, -⟩ := read_fin zero_fin.1
    refine ⟨if negB d then .lt else .gt, ?_⟩
    unfold Format.order
    rw [read_inf h hI, hr]
    rfl
  · exact ⟨_, order_fin hF zero_fin.1⟩
/-- what five less a number is. -/
theorem five_sub {x : Nat} (hx : FinB x) : ∃ d, double.sub fiveB x = some d ∧ addC fiveB (negF x) = d ∧ isNaNB d = false ∧ (rv x ≤ rv fiveB → (double.order d 0 == some .gt || double.order d 0 == some .eq) = true) ∧ (rv fiveB < rv x → (double.order d 0 == some .gt || double.order d 0 == some .eq) = false) := by
  obtain ⟨g, hs, hp, hn⟩ := sub_rv five_fin hx
  have hle : rungOf (rv fiveB - rv x).natAbs ≤ 9218868437227405312 := by
    by_cases h0 : (rv fiveB - rv x).natAbs = 0
    · rw [h0]; decide
    · exact (rung_pos h0).2
  have hmag : magB (double.word g (rungOf (rv fiveB - rv x).natAbs)) = rungOf (rv fiveB - rv x).natAbs := mag_word (by omega)
  have hnan : isNaNB (double.word g (rungOf (rv fiveB - rv x).natAbs)) = false := by
    unfold isNaNB
    rw [hmag]
    exact decide_eq_false (by omega)
  have hz0 : rv fiveB - rv x = 0 → double.order (double.word g (rungOf (rv fiveB - rv x).natAbs)) 0 = some .eq := by
    intro h0
    rw [h0]
    cases g <;> decide +kernel
  have hlt : (rv fiveB - rv x).natAbs ≠ 0 → (double.order (double.word g (rungOf (rv fiveB - rv x).natAbs)) 0 == some .lt) = g := fun h0 => order_zero (rung_pos h0).1 (rung_pos h0).2
  have hsome := order_some (word_lt (s := g) (by omega : rungOf (rv fiveB - rv x).natAbs < 9223372036854775808)) hnan
  refine ⟨_, hs, ?_, hnan, ?_, ?_⟩
  · unfold addC
    rw [add_neg _ hx.1, hs]
    show canB _ = _
    unfold canB
    rw [if_neg (by rw [hnan]; decide)]
  · intro hl
    by_cases h0 : rv fiveB - rv x = 0
    · rw [hz0 h0]; rfl
    · have hg := hp (by omega)
      have := hlt (by omega)
      rw [hg] at this hsome ⊢
      obtain ⟨o, ho⟩ := hsome
      rw [ho] at this ⊢
      cases o
      · cases this
      · rfl
      · rfl
  · intro hl
    have hg := hn (by omega)
    have := hlt (by omega)
    rw [hg] at this ⊢
    rw [beq_iff_eq] at this
    rw [this]
    rfl
set_option maxRecDepth 100000 in
theorem abs_any (b : Nat) (w : World) (h : b < 18446744073709551616) : Calls Tryz.prog 93 #[.float .f64 b] w fun e w' => e = .returned (.float .f64 (magB b)) ∧ w = w' := by
  have hb := run_bits b
  have hf := fun n : Int => run_from n
  have hA := andNot_sign h
  clear h
  go_enter Tryz.func93, Tryz.ntmps93
  go_wp2_with fail
  go_ret
  exact ⟨rfl, rfl⟩
set_option maxRecDepth 100000 in
theorem isinf_any (b : Nat) (w : World) (h : b < 18446744073709551616) (t : Bool) (ht : (FloatKind.f64.format.order (magB b) 9218868437227405311 == some .gt) = t) : Calls Tryz.prog 52 #[.float .f64 b, .int .i64 0] w fun e w' => e = .returned (.bool t) ∧ w = w' := by
  have HA := Lib.hid (abs_any b w h)
  clear h
  generalize magB b = m at *
  go_enter Tryz.func52, Tryz.ntmps52
  go_wp2_with fail
  refine HA.out.mono ?_
  rintro e w1 ⟨rfl, rfl⟩
  go_wp2_with fail
  go_ret
  exact ⟨by first | rfl | rw [← ht], rfl⟩
end Go.Proofs.YtfodeeejolkkfaaGreat
namespace Go.Proofs.YtfodeeejolkkfaaGreat
open Go.RowKit Go.Lib Ieee

/-- not below nought. -/
def ge0 (x : Nat) : Bool := (FloatKind.f64.format.order x 0 == some .gt || FloatKind.f64.format.order x 0 == some .eq)
set_option maxRecDepth 100000 in
set_option maxHeartbeats 1000000 in
theorem cmove_bad (w : World) {P x : Nat} (hx : x < 18446744073709551616) (h : ge0 x = false ∨ (ge0 x = true ∧ (FloatKind.f64.format.order (magB x) 9218868437227405311 == some .gt) = true)) :
    Calls Tryz.prog 25 #[.pointer (some ⟨P, 0, none⟩), .int .i64 1, .int .i64 3, .int .i64 4, .float .f64 x] w fun e w' => e = .returned (.int .i64 15) ∧ w = w' := by
  rcases h with h | ⟨h, hi⟩
  · unfold ge0 at h
    clear hx
    go_enter Tryz.func25, Tryz.ntmps25
    go_wp2_with fail
    go_ret
    exact ⟨rfl, rfl⟩
  · have HI := Lib.hid (isinf_any x w hx true hi)
    unfold ge0 at h
    clear hx hi
    go_enter Tryz.func25, Tryz.ntmps25
    go_wp2_with fail
    refine HI.out.mono ?_
    rintro e w1 ⟨rfl, rfl⟩
    go_wp2_with fail
    go_ret
    exact ⟨rfl, rfl⟩
set_option maxRecDepth 100000 in
set_option maxHeartbeats 2000000 in
theorem cmove_in (w : World) {base : Nat} {d : Ids} {f : Int → List Nat} {n k x : Nat} (h : Sn w base d f n k) (hn : n ≤ 8) (hk : k ≤ 14) (hx : x < 18446744073709551616) (hg : ge0 x = true) (hi : (FloatKind.f64.format.order (magB x) 9218868437227405311 == some .gt) = false) :
    Calls Tryz.prog 25 #[.pointer (some ⟨d.P, 0, none⟩), .int .i64 1, .int .i64 3, .int .i64 4, .float .f64 x] w fun e w' =>
      ∃ f' n' k', e = .returned (.int .i64 (if ge0 (addC (getF f 3) (negF x)) = true then 0 else 15)) ∧ Ow base w w' ∧ Sn w' base d f' n' k' ∧ n' ≤ n + 4 ∧ k' ≤ k + 2 ∧ getF f' 3 = addC (getF f 3) (negF x) := by
  have HI := Lib.hid (fun w => isinf_any x w hx false hi)
  have hneg : ∀ b w, (Op.unary .neg (.float .f64 b)).run Tryz.prog w = .ok (.float .f64 (negF b)) w := fun _ _ => rfl
  have hg3 : getF (setF f 3 (addC (getF f 3) (negF x))) 3 = addC (getF f 3) (negF x) := by rw [getF_set _ _ _ _ (fun b => (h.five b).1), if_pos rfl]
  unfold ge0 at hg
  clear hx hi
  cases hy : ge0 (addC (getF f 3) (negF x)) with
  | true =>
    unfold ge0 at hy
    rw [if_pos rfl]
    go_enter Tryz.func25, Tryz.ntmps25
    go_wp2_with fail
    refine (HI.out w).mono ?_
    rintro e w1 ⟨rfl, rfl⟩
    go_wp2_with fail
    refine (cadd_in w (m := 3) h (by omega) (by omega) (by omega)).mono ?_
    rintro e w2 ⟨rfl, o2, h2⟩
    go_wp2_with fail
    refine (cadd_in w2 (m := 4) h2 (by omega) (by omega) (by omega)).mono ?_
    rintro e w3 ⟨rfl, o3, h3⟩
    have o4 := o2.trans o3
    have hfin : getF (setF (setF f 3 (addC (getF f 3) (negF x))) 4 (addC (getF (setF f 3 (addC (getF f 3) (negF x))) 4) x)) 3 = addC (getF f 3) (negF x) := by
      rw [getF_set _ _ _ _ (fun b => (h2.five b).1), if_neg (by omega)]
      exact hg3
    have HFin := Lib.hid hfin
    clear hfin hg3 h h2 o2 o3
    go_wp2_with fail
    go_ret
    exact ⟨_, _, _, rfl, o4, h3, by omega, by omega, HFin.out⟩
  | false =>
    unfold ge0 at hy
    rw [if_neg (by decide)]
    have HG3 := Lib.hid hg3
    clear hg3
    go_enter Tryz.func25, Tryz.ntmps25
    go_wp2_with fail
    refine (HI.out w).mono ?_
    rintro e w1 ⟨rfl, rfl⟩
    go_wp2_with fail
    refine (cadd_in w (m := 3) h (by omega) (by omega) (by omega)).mono ?_
    rintro e w2 ⟨rfl, o2, h2⟩
    clear h
    go_wp2_with fail
    go_ret
    exact ⟨_, _, _, rfl, o2, h2, by omega, by omega, HG3.out⟩
theorem ge0_nan {x : Nat} (h : isNaNB x = true) : ge0 x = false := by
  have : FloatKind.f64.format.order x 0 = none := nan_order h 0
  unfold ge0; rw [this]; rfl
theorem order_inf {x : Nat} (h : x < 18446744073709551616) (hI : magB x = 9218868437227405312) : FloatKind.f64.format.order x 0 = some (if negB x then .lt else .gt) := by
  obtain ⟨m, i, hr, -⟩ := read_fin zero_fin.1
  show double.order x 0 = _
  unfold Format.order
  rw [read_inf h hI, hr]
  rfl
theorem order_zero_fin {x : Nat} (h : FinB x) : FloatKind.f64.format.order x 0 = some (compare (rv x) 0) := by
  have := order_fin h zero_fin.1
  rw [zero_fin.2] at this
  exact this
theorem ge0_fin {x : Nat} (h : FinB x) : ge0 x = decide (0 ≤ rv x) := by
  unfold ge0
  rw [order_zero_fin h]
  rcases Int.lt_trichotomy (rv x) 0 with h1 | h1 | h1
  · rw [Int.compare_eq_lt.2 h1, decide_eq_false (by omega)]; rfl
  · rw [h1]; rfl
  · rw [Int.compare_eq_gt.2 h1, decide_eq_true (by omega)]; rfl
theorem mag_max {x : Nat} (h : FinB x) : (FloatKind.f64.format.order (magB x) 9218868437227405311 == some .gt) = false := by
  obtain ⟨h1, h2, -, -⟩ := fin_num h.2
  obtain ⟨h3, h4, -, -⟩ := fin_num (show 9218868437227405311 < 9218868437227405312 by decide)
  have ho : FloatKind.f64.format.order (magB x) 9218868437227405311 = some (compare (rv (magB x)) (rv 9218868437227405311)) := order_fin h1 h3
  have hm := valR_mono (show magB x ≤ 9218868437227405311 by have := h.2; omega)
  rw [ho, h2, h4, beq_eq_false_iff_ne]
  intro e
  have := Int.compare_eq_gt.1 (Option.some.inj e)
  omega
theorem mag_max_inf : (FloatKind.f64.format.order 9218868437227405312 9218868437227405311 == some .gt) = true := by decide +kernel
end Go.Proofs.YtfodeeejolkkfaaGreat
namespace Go.Proofs.YtfodeeejolkkfaaGreat
open Go.RowKit Go.Lib Ieee
variable {base : Nat} {d : Ids} {p : Par} {F : World → Prop}

/-- a store with an open transaction: N reads at most, these spans, writes in the first four blocks alone. -/
def My (w : World) (base : Nat) (d : Ids) (p : Par) (F : World → Prop) (f : Int → List Nat) (N : Nat) (sl : List (Int × Int)) (c : Bool) : Prop :=
  ∃ L, Sy w base d p F f L N sl ∧ (∀ x ∈ L, x.1 < 4) ∧ (c = true → 0 < L.length)
theorem My.keep {w w' : World} {f : Int → List Nat} {N : Nat} {sl : List (Int × Int)} {c : Bool} (hf : Fr base d p F) (h : My w base d p F f N sl c) (hc : Chg [] w w') : My w' base d p F f N sl c := by
  obtain ⟨L, h1, h2⟩ := h
  exact ⟨L, h1.keep hf hc, h2⟩
theorem My.five {w : World} {f : Int → List Nat} {N : Nat} {sl : List (Int × Int)} {c : Bool} (h : My w base d p F f N sl c) : ∀ b, (f b).length = 5 ∧ ∀ x ∈ f b, CanB x := by
  obtain ⟨L, h1, -⟩ := h
  exact h1.five
theorem putL_pos (L : List (Int × Value)) (b : Int) (v : Value) : 0 < (putL L b v).length := by
  cases L with
  | nil => simp [putL]
  | cons p l => simp only [putL]; split <;> simp
theorem putL_lt {L : List (Int × Value)} {b : Int} {v : Value} {m : Int} (h : ∀ x ∈ L, x.1 < m) (hb : b < m) : ∀ x ∈ putL L b v, x.1 < m := by
  induction L with
  | nil => intro x hx; simp [putL] at hx; rw [hx]; exact hb
  | cons p l ih =>
    intro x hx
    simp only [putL] at hx
    split at hx
    · rcases List.mem_cons.1 hx with rfl | hx
      · exact hb
      · exact h x (List.mem_cons_of_mem _ hx)
    · rcases List.mem_cons.1 hx with rfl | hx
      · exact h _ List.mem_cons_self
      · exact ih (fun y hy => h y (List.mem_cons_of_mem _ hy)) x hx
theorem nodup_sub (l : List Int) : ∀ S : List Int, l.Nodup → (∀ x ∈ l, x ∈ S) → l.length ≤ S.length := by
  induction l with
  | nil => intro S _ _; exact Nat.zero_le _
  | cons a l ih =>
    intro S hn hs
    simp only [List.nodup_cons] at hn
    have ha := hs a List.mem_cons_self
    have := ih (S.erase a) hn.2 (fun x hx => by
      have hne : x ≠ a := fun e => hn.1 (e ▸ hx)
      exact (List.mem_erase_of_ne hne).2 (hs x (List.mem_cons_of_mem _ hx)))
    rw [List.length_erase_of_mem ha] at this
    have := List.length_pos_of_mem ha
    simp only [List.length_cons]
    omega
theorem few4 {L : List (Int × Value)} (hn : (L.map Prod.fst).Nodup) (h : ∀ x ∈ L, 0 ≤ x.1 ∧ x.1 < 4) : L.length ≤ 4 := by
  have := nodup_sub (L.map Prod.fst) [0, 1, 2, 3] hn (fun x hx => by
    obtain ⟨p, hp, rfl⟩ := List.mem_map.1 hx
    have := h p hp
    have : p.1 = 0 ∨ p.1 = 1 ∨ p.1 = 2 ∨ p.1 = 3 := by omega
    rcases this with e | e | e | e <;> rw [e] <;> decide)
  simpa using this
theorem Sy.four {w : World} {f : Int → List Nat} {L : List (Int × Value)} {N : Nat} {sl : List (Int × Int)} (h : Sy w base d p F f L N sl) (h4 : ∀ x ∈ L, x.1 < 4) : L.length ≤ 4 :=
  few4 h.st.buf.2.nodup (fun x hx => ⟨(h.st.keys x hx).1, h4 x hx⟩)
theorem yget_in (w : World) {f : Int → List Nat} {N m : Nat} {sl : List (Int × Int)} {c : Bool} (hf : Fr base d p F) (h : My w base d p F f N sl c) (hn : sl.length ≤ 11) (hN : N ≤ 70000) (hm : m < 20) :
    Calls Tryz.prog 21 #[.pointer (some ⟨d.P, 0, none⟩), .int .i64 p.h, .int .i64 m] w fun e w' => e = .returned (.tuple #[.float .f64 (getF f m), .int .i64 0]) ∧ Ow base w w' ∧ My w' base d p F f (N + 1) (joinS sl (m / 5 : Nat) 1) c := by
  obtain ⟨L, h1, h4⟩ := h
  refine (xget_in w hf h1 hn (by omega) (by omega)).mono ?_
  rintro e w1 ⟨rfl, o1, k1⟩
  exact ⟨rfl, o1, L, k1, h4⟩
theorem yset_in (w : World) {f : Int → List Nat} {N m x : Nat} {sl : List (Int × Int)} {c : Bool} (hf : Fr base d p F) (h : My w base d p F f N sl c) (hn : sl.length ≤ 11) (hN : N ≤ 70000) (hm : m < 20) (hx : x < 18446744073709551616) :
    Calls Tryz.prog 19 #[.pointer (some ⟨d.P, 0, none⟩), .int .i64 p.h, .int .i64 m, .float .f64 x] w fun e w' => e = .returned (.int .i64 0) ∧ Ow base w w' ∧ My w' base d p F (setF f m (canB x)) (N + 1) (joinS sl (m / 5 : Nat) 1) true := by
  obtain ⟨L, h1, h4, -⟩ := h
  refine (xset_in w hf h1 hn (by omega) (by have := h1.four h4; omega) (by omega) hx).mono ?_
  rintro e w1 ⟨v, rfl, o1, k1⟩
  exact ⟨rfl, o1, _, k1, putL_lt h4 (by omega), fun _ => putL_pos _ _ _⟩
set_option maxRecDepth 100000 in
set_option maxHeartbeats 1000000 in
theorem yadd_in (w : World) {f : Int → List Nat} {N m x : Nat} {sl : List (Int × Int)} {c : Bool} (hf : Fr base d p F) (h : My w base d p F f N sl c) (hn : sl.length ≤ 10) (hN : N ≤ 60000) (hm : m < 20) :
    Calls Tryz.prog 20 #[.pointer (some ⟨d.P, 0, none⟩), .int .i64 p.h, .int .i64 m, .float .f64 x] w fun e w' => e = .returned (.tuple #[.float .f64 (addC (getF f m) x), .int .i64 0]) ∧ Ow base w w' ∧ My w' base d p F (setF f m (addC (getF f m) x)) (N + 2) (joinS (joinS sl (m / 5 : Nat) 1) (m / 5 : Nat) 1) true := by
  have hy := addC_can (getF f m) x
  have HY := Lib.hid (canB_self hy)
  have HF := Lib.hid hf
  clear hf
  go_enter Tryz.func20, Tryz.ntmps20
  go_wp2_with fail
  refine (yget_in w HF.out h (by omega) (by omega) hm).mono ?_
  rintro e w1 ⟨rfl, k1, h1⟩
  obtain ⟨c, w2, ha, hc, hclt, k2⟩ := run_add (getF f m) x w1
  have HC := Lib.hid hc
  clear hc
  have h2 := h1.keep HF.out k2
  have o2 := k1.then k2
  go_wp2_with fail
  refine (fbits_any c w2).mono ?_
  rintro e w3 ⟨rfl, rfl⟩
  rw [HC.out]
  go_wp2_with fail
  refine (fromBits_any _ w2).mono ?_
  rintro e w3 ⟨rfl, rfl⟩
  rw [HY.out]
  go_wp2_with fail
  refine (yset_in w2 HF.out h2 (by have := joinS_len sl (m / 5 : Nat) 1; omega) (by omega) hm hy.1).mono ?_
  rintro e w4 ⟨rfl, o4, h4⟩
  rw [HY.out] at h4
  have o5 := o2.trans o4
  clear h h1 h2 k1 k2 o2 o4
  go_wp2_with fail
  go_ret2
  exact ⟨rfl, o5, h4⟩
set_option maxRecDepth 100000 in
set_option maxHeartbeats 2000000 in
theorem ymove_in (w : World) {f : Int → List Nat} {N a b x : Nat} {sl : List (Int × Int)} {c : Bool} (hf : Fr base d p F) (h : My w base d p F f N sl c) (hn : sl.length ≤ 8) (hN : N ≤ 50000) (ha : a < 20) (hb : b < 20) (hx : x < 18446744073709551616) (hg : ge0 x = true) (hi : (FloatKind.f64.format.order (magB x) 9218868437227405311 == some .gt) = false) :
    Calls Tryz.prog 25 #[.pointer (some ⟨d.P, 0, none⟩), .int .i64 p.h, .int .i64 a, .int .i64 b, .float .f64 x] w fun e w' =>
      Ow base w w' ∧ ((ge0 (addC (getF f a) (negF x)) = true ∧ e = .returned (.int .i64 0) ∧ ∃ sl', sl'.length ≤ sl.length + 4 ∧ My w' base d p F (setF (setF f a (addC (getF f a) (negF x))) b (addC (getF (setF f a (addC (getF f a) (negF x))) b) x)) (N + 4) sl' true) ∨
        (ge0 (addC (getF f a) (negF x)) = false ∧ e = .returned (.int .i64 15) ∧ ∃ f' sl', My w' base d p F f' (N + 2) sl' true)) := by
  have HJ : ∀ l b, (joinS (joinS l b 1) b 1).length ≤ l.length + 2 := fun l b => by have := joinS_len l b 1; have := joinS_len (joinS l b 1) b 1; omega
  have HI := Lib.hid (fun w => isinf_any x w hx false hi)
  have HF := Lib.hid hf
  have hneg : ∀ b w, (Op.unary .neg (.float .f64 b)).run Tryz.prog w = .ok (.float .f64 (negF b)) w := fun _ _ => rfl
  unfold ge0 at hg
  clear hx hi hf
  cases hy : ge0 (addC (getF f a) (negF x)) with
  | true =>
    unfold ge0 at hy
    go_enter Tryz.func25, Tryz.ntmps25
    go_wp2_with fail
    refine (HI.out w).mono ?_
    rintro e w1 ⟨rfl, rfl⟩
    go_wp2_with fail
    refine (yadd_in w (m := a) HF.out h (by omega) (by omega) ha).mono ?_
    rintro e w2 ⟨rfl, o2, h2⟩
    go_wp2_with fail
    refine (yadd_in w2 (m := b) HF.out h2 (by have := HJ sl (a / 5 : Nat); omega) (by omega) hb).mono ?_
    rintro e w3 ⟨rfl, o3, h3⟩
    have o4 := o2.trans o3
    clear h h2 o2 o3
    go_wp2_with fail
    go_ret
    exact ⟨o4, Or.inl ⟨by simp, rfl, _, by have := HJ sl (a / 5 : Nat); have := HJ (joinS (joinS sl (a / 5 : Nat) 1) (a / 5 : Nat) 1) (b / 5 : Nat); omega, h3⟩⟩
  | false =>
    unfold ge0 at hy
    go_enter Tryz.func25, Tryz.ntmps25
    go_wp2_with fail
    refine (HI.out w).mono ?_
    rintro e w1 ⟨rfl, rfl⟩
    go_wp2_with fail
    refine (yadd_in w (m := a) HF.out h (by omega) (by omega) ha).mono ?_
    rintro e w2 ⟨rfl, o2, h2⟩
    clear h
    go_wp2_with fail
    go_ret
    exact ⟨o2, Or.inr ⟨by simp, rfl, _, _, h2⟩⟩
end Go.Proofs.YtfodeeejolkkfaaGreat
namespace Go.Proofs.YtfodeeejolkkfaaGreat
open Go.RowKit Go.Lib

/-- the bytes of a number, the least first. -/
def leB (v n : Nat) : List UInt8 := (List.range n).map fun i => UInt8.ofNat (v / 256 ^ i % 256)
theorem leB_length (v n : Nat) : (leB v n).length = n := by simp [leB]
/-- the row of n bytes of which j are written. -/
def rowL (n v j : Nat) : Array Value := ((List.range n).map fun i => Value.int .u8 (if i < j then ((v / 256 ^ i % 256 : Nat) : Int) else 0)).toArray
theorem rowL_zero (n v u : Nat) : rowL n v 0 = rowL n u 0 := by simp [rowL]
theorem rowL_get (n v j i : Nat) (h : i < n) : (rowL n v j)[i]? = some (.int .u8 (if i < j then ((v / 256 ^ i % 256 : Nat) : Int) else 0)) := by simp [rowL, h]
theorem rowL_set (n v j : Nat) (_h : j < n) : (rowL n v j).setIfInBounds j (.int .u8 ((v / 256 ^ j % 256 : Nat) : Int)) = rowL n v (j + 1) := by
  apply Array.ext
  · simp [rowL]
  · intro i h1 h2
    have hi : i < n := by simpa [rowL] using h2
    by_cases e : j = i
    · subst e
      simp [rowL]
    · rw [Array.getElem_setIfInBounds (by simpa [rowL] using hi), if_neg e]
      have : (i < j + 1) = (i < j) := by simp; omega
      simp [rowL, this]
theorem rowL_full (n v : Nat) : rowL n v n = (Lib.byteCells (leB v n)).toArray := by
  apply Array.ext
  · simp [rowL, Lib.byteCells, leB]
  · intro i h1 h2
    have hi : i < n := by simpa [rowL] using h1
    simp [rowL, Lib.byteCells, leB, hi]
set_option maxRecDepth 100000 in
set_option maxHeartbeats 1000000 in
theorem bput_any (w : World) (v n : Nat) (hn : n ≤ 8) (_hv : v < 18446744073709551616)
    (hmk : ∀ w : World, (Instr.makeSlice 23 (.int .i64 n) (.int .i64 n)).run Tryz.prog w = .ok (.slice (some ⟨w.heap.size, 0, none⟩) n n) (w.alloc (.cells (rowL n 0 0) 5))) :
    Calls Tryz.prog 169 #[.int .u64 v, .int .i64 n] w fun e w' => ∃ g, e = .returned (.slice (some ⟨g, 0, none⟩) n n) ∧ Chg [] w w' ∧ w'.heap[g]? = some (.cells (rowL n v n) 5 (0, 0)) ∧ w.heap.size ≤ g := by
  go_enter Tryz.func169, Tryz.ntmps169
  have g0 : (w.alloc (.cells (rowL n 0 0) 5)).heap[w.heap.size]? = some (.cells (rowL n v 0) 5 (0, 0)) := by
    rw [rowL_zero n v 0]
    exact heap_new w _
  have k0 : Chg [] w (w.alloc (.cells (rowL n 0 0) 5)) := Chg.alloc w _
  go_wp2_with fail
  generalize w.alloc (.cells (rowL n 0 0) 5) = w1 at *
  generalize hz : w.heap.size = z at *
  go_loopw [11] (fun i wr => ∃ j : Nat, j ≤ n ∧ i = .int .i64 j ∧ Chg [] w wr ∧ wr.heap[z]? = some (.cells (rowL n v j) 5 (0, 0))) (fun i _ => n - (intOf i).toNat)
  case atStart => exact ⟨0, by omega, rfl, k0, g0⟩
  case round =>
    obtain ⟨j, hj, rfl, kc, gj⟩ := hrel
    by_cases hlt : j < n
    · have cj : wr.cell? ⟨z, j, none⟩ = some (.int .u8 0) := by
        refine cell_is gj j ?_
        rw [rowL_get n v j j hlt, if_neg (Nat.lt_irrefl j)]
      have fj := unfrozen gj j
      clear g0 k0
      go_wp2_with fail
      have e : (v : Int) / 2 ^ (8 * j) % 256 = ((v / 256 ^ j % 256 : Nat) : Int) := by
        have h2 : (2 : Int) ^ (8 * j) = ((256 ^ j : Nat) : Int) := by
          rw [Int.pow_mul, Int.natCast_pow]
          rfl
        rw [h2]
        rfl
      refine ⟨⟨j + 1, by omega, by simp, kc.new_set (by omega) j _, ?_⟩, by simp [intOf]; omega⟩
      rw [e]
      exact heap_set gj j _ (rowL_set n v j hlt)
    · obtain rfl : j = n := by omega
      go_wp2_with fail
      go_ret
      exact ⟨z, rfl, kc, gj, by omega⟩
theorem bput_bs (w : World) (v n : Nat) (hn : n ≤ 8) (hv : v < 18446744073709551616)
    (hmk : ∀ w : World, (Instr.makeSlice 23 (.int .i64 n) (.int .i64 n)).run Tryz.prog w = .ok (.slice (some ⟨w.heap.size, 0, none⟩) n n) (w.alloc (.cells (rowL n 0 0) 5))) :
    Calls Tryz.prog 169 #[.int .u64 v, .int .i64 n] w fun e w' => ∃ g, e = .returned (.slice (some ⟨g, 0, none⟩) n n) ∧ Chg [] w w' ∧ Bs w' (some ⟨g, 0, none⟩) (leB v n) ∧ w.heap.size ≤ g := by
  refine (bput_any w v n hn hv hmk).mono ?_
  rintro e w' ⟨g, rfl, hc, hg, hl⟩
  refine ⟨g, rfl, hc, ?_, hl⟩
  rw [rowL_full] at hg
  exact Bs.row hg
set_option maxRecDepth 100000 in
theorem put32_any (w : World) (v : Nat) (hv : v < 4294967296) : Calls Tryz.prog 117 #[.int .u32 v] w fun e w' => ∃ g, e = .returned (.slice (some ⟨g, 0, none⟩) 4 4) ∧ Chg [] w w' ∧ Bs w' (some ⟨g, 0, none⟩) (leB v 4) ∧ w.heap.size ≤ g := by
  have HP := Lib.hid (bput_bs w v 4 (by omega) (by omega) (fun w => by kernel_rfl))
  go_enter Tryz.func117, Tryz.ntmps117
  go_wp2_with fail
  refine HP.out.mono ?_
  rintro e w' ⟨g, rfl, h1, h2, h3⟩
  go_wp2_with fail
  go_ret
  exact ⟨g, rfl, h1, h2, h3⟩
set_option maxRecDepth 100000 in
theorem put64_any (w : World) (v : Nat) (hv : v < 18446744073709551616) : Calls Tryz.prog 114 #[.int .u64 v] w fun e w' => ∃ g, e = .returned (.slice (some ⟨g, 0, none⟩) 8 8) ∧ Chg [] w w' ∧ Bs w' (some ⟨g, 0, none⟩) (leB v 8) ∧ w.heap.size ≤ g := by
  have HP := Lib.hid (bput_bs w v 8 (by omega) hv (fun w => by kernel_rfl))
  go_enter Tryz.func114, Tryz.ntmps114
  go_wp2_with fail
  refine HP.out.mono ?_
  rintro e w' ⟨g, rfl, h1, h2, h3⟩
  go_wp2_with fail
  go_ret
  exact ⟨g, rfl, h1, h2, h3⟩
end Go.Proofs.YtfodeeejolkkfaaGreat
namespace Go.Proofs.YtfodeeejolkkfaaGreat
open Go.RowKit Go.Lib

/-- a turn of the register. -/
def crcBit (r : Int) : Int := bits .xor .u32 (r / 2) (bits .and .u32 2197175160 (-(bits .and .u32 r 1) % 4294967296))
def crcBits : Nat → Int → Int
  | 0, r => r
  | n + 1, r => crcBit (crcBits n r)
/-- .. behind a byte. -/
def crcByte (r : Int) (c : UInt8) : Int := crcBits 8 (bits .xor .u32 r (c.toNat : Int))
def crcRun (r : Int) (l : List UInt8) : Int := l.foldl crcByte r
/-- the check sum of bytes. -/
def crcI (l : List UInt8) : Int := bits .xor .u32 IntKind.u32.max (crcRun (bits .xor .u32 IntKind.u32.max 0) l)
theorem wrap_u32 (n : Int) : 0 ≤ IntKind.u32.wrap n ∧ IntKind.u32.wrap n < 4294967296 := by
  have : IntKind.u32.wrap n = n % 4294967296 := by simp [IntKind.wrap, IntKind.signed, IntKind.bits]
  rw [this]; omega
theorem bits_u32 (op : BinOp) (x y : Int) : 0 ≤ bits op .u32 x y ∧ bits op .u32 x y < 4294967296 := wrap_u32 _
theorem crcI_ge (l : List UInt8) : 0 ≤ crcI l ∧ crcI l < 4294967296 := bits_u32 _ _ _
theorem crcBits_ge (n : Nat) (r : Int) (h0 : 0 ≤ r) (h1 : r < 4294967296) : 0 ≤ crcBits n r ∧ crcBits n r < 4294967296 := by
  cases n with
  | zero => exact ⟨h0, h1⟩
  | succ n => exact bits_u32 .xor (crcBits n r / 2) (bits .and .u32 2197175160 (-(bits .and .u32 (crcBits n r) 1) % 4294967296))
/-- .. as a number. -/
def crcN (l : List UInt8) : Nat := (crcI l).toNat
theorem crcN_lt (l : List UInt8) : crcN l < 4294967296 := by have := crcI_ge l; unfold crcN; omega
theorem crcN_eq (l : List UInt8) : ((crcN l : Nat) : Int) = crcI l := by have := crcI_ge l; unfold crcN; omega
set_option maxRecDepth 100000 in
set_option maxHeartbeats 2000000 in
theorem cadd_crc (w : World) {C : Nat} {pa : Option Addr} {m c : Nat} {l : List UInt8} (hC : w.heap[C]? = some (.cells #[.int .u32 0] 344 (0, 0))) (hb : Bs w pa l) (hl : l.length = m) (hm : m ≤ 1000000) :
    Calls Tryz.prog 225 #[.pointer (some ⟨C, 0, none⟩), .slice pa m c] w fun e w' => e = .returned (.pointer (some ⟨C, 0, none⟩)) ∧ Chg [C] w w' ∧ w'.heap[C]? = some (.cells #[.int .u32 (crcI l)] 344 (0, 0)) := by
  have c0 : w.cell? ⟨C, 0, none⟩ = some (.int .u32 0) := cell_is hC 0 rfl
  have f0 := unfrozen hC 0
  have HC := Lib.hid hC
  have HB := Lib.hid hb
  clear hC hb
  go_enter Tryz.func225, Tryz.ntmps225
  go_wp2_with fail
  go_loopw [5, 7, 17] (fun r _ i wr => ∃ j : Nat, j ≤ m ∧ i = .int .i64 j ∧ r = .int .u32 (crcRun (bits .xor .u32 IntKind.u32.max 0) (l.take j)) ∧ w = wr) (fun _ _ i _ => m - (intOf i).toNat)
  case atStart => exact ⟨0, by omega, rfl, rfl, rfl⟩
  case round =>
    obtain ⟨j, hj, rfl, rfl, rfl⟩ := hrel
    by_cases hlt : j < m
    · obtain ⟨b, o, rfl, cj⟩ : ∃ b o, pa = some ⟨b, o, none⟩ ∧ w.cell? ⟨b, o + j, none⟩ = some (.int .u8 (l[j]'(by omega)).toNat) := by
        rcases HB.out with h | ⟨b, o, e, _, h⟩
        · rw [h] at hl; simp at hl; omega
        · exact ⟨b, o, e, h j (by omega)⟩
      have htk : l.take (j + 1) = l.take j ++ [l[j]'(by omega)] := by rw [List.take_succ_eq_append_getElem]
      have hrun : crcRun (bits .xor .u32 IntKind.u32.max 0) (l.take (j + 1)) = crcByte (crcRun (bits .xor .u32 IntKind.u32.max 0) (l.take j)) (l[j]'(by omega)) := by rw [htk]; unfold crcRun; rw [List.foldl_append]; rfl
      have HR := Lib.hid hrun
      clear hrun htk
      generalize l[j]'(by omega) = y at *
      generalize crcRun (bits .xor .u32 IntKind.u32.max 0) (l.take j) = r at *
      go_wp2_with fail
      go_loopw [5, 25] (fun q i wr => ∃ k : Nat, k ≤ 8 ∧ i = .int .i64 k ∧ q = .int .u32 (crcBits k (bits .xor .u32 r (y.toNat : Int))) ∧ w = wr) (fun _ i _ => 8 - (intOf i).toNat)
      case atStart =>
        have hy : (y.toNat : Int) % 4294967296 = y.toNat := by have := y.toNat_lt; omega
        exact ⟨0, by omega, rfl, by rw [hy]; rfl, rfl⟩
      case round =>
        obtain ⟨k, hk, rfl, rfl, rfl⟩ := hrel
        by_cases hlk : k < 8
        · generalize hq : crcBits k (bits .xor .u32 r (y.toNat : Int)) = q at *
          go_wp2_with fail
          exact ⟨⟨k + 1, by omega, by simp, by rw [← hq]; rfl, trivial⟩, by simp [intOf]; omega⟩
        · obtain rfl : k = 8 := by omega
          generalize hq : crcBits 8 (bits .xor .u32 r (y.toNat : Int)) = q at *
          go_wp2_with fail
          exact ⟨⟨j + 1, by omega, by simp, by rw [HR.out, ← hq]; rfl, trivial⟩, by simp [intOf]; omega⟩
    · obtain rfl : j = m := by omega
      have ht : l.take j = l := List.take_of_length_le (by omega)
      rw [ht] at *
      go_wp2_with fail
      go_ret
      exact ⟨rfl, Chg.set w C 0 _, heap_set HC.out 0 _ rfl⟩
theorem cnew_crc (w : World) : Calls Tryz.prog 224 #[] w fun e w' => e = .returned (.pointer (some ⟨w.heap.size, 0, none⟩)) ∧ w' = w.alloc (.cells #[.int .u32 0] 344) := by
  go_enter Tryz.func224, Tryz.ntmps224
  go_wp2_with fail
  go_ret
  exact ⟨rfl, rfl⟩
theorem cval_crc (w : World) {C : Nat} {r : Int} (hC : w.heap[C]? = some (.cells #[.int .u32 r] 344 (0, 0))) : Calls Tryz.prog 226 #[.pointer (some ⟨C, 0, none⟩)] w fun e w' => e = .returned (.int .u32 r) ∧ w' = w := by
  have c0 : w.cell? ⟨C, 0, none⟩ = some (.int .u32 r) := cell_is hC 0 rfl
  clear hC
  go_enter Tryz.func226, Tryz.ntmps226
  go_wp2_with fail
  go_ret
  exact ⟨rfl, rfl⟩
set_option maxRecDepth 100000 in
theorem crc_of (w : World) {pa : Option Addr} {m c : Nat} {l : List UInt8} (hb : Bs w pa l) (hl : l.length = m) (hm : m ≤ 1000000) :
    Calls Tryz.prog 204 #[.slice pa m c] w fun e w' => e = .returned (.int .u32 (crcN l : Nat)) ∧ Chg [] w w' := by
  have HB := Lib.hid hb
  clear hb
  rw [crcN_eq]
  go_enter Tryz.func204, Tryz.ntmps204
  go_wp2_with fail
  refine (cnew_crc w).mono ?_
  rintro e w1 ⟨rfl, rfl⟩
  have k1 : Chg [] w (w.alloc (.cells #[.int .u32 0] 344)) := Chg.alloc w _
  have h1 := heap_new w (.cells #[.int .u32 0] 344)
  have HB1 := Lib.hid (HB.out.chg k1)
  generalize w.alloc (.cells #[.int .u32 0] 344) = w1 at *
  generalize hz : w.heap.size = C at *
  go_wp2_with fail
  refine (cadd_crc w1 h1 HB1.out hl hm).mono ?_
  rintro e w2 ⟨rfl, k2, h2⟩
  go_wp2_with fail
  refine (cval_crc w2 h2).mono ?_
  rintro e w3 ⟨rfl, rfl⟩
  go_wp2_with fail
  go_ret
  exact ⟨rfl, k1.trans k2 (fun x hx hlt => by simp at hx; omega)⟩
end Go.Proofs.YtfodeeejolkkfaaGreat
namespace Go.Proofs.YtfodeeejolkkfaaGreat
open Go.RowKit Go.Lib

set_option maxRecDepth 100000 in
set_option maxHeartbeats 1000000 in
theorem bgrow_nil (w : World) {k : Nat} (h0 : 0 < k) (h1 : k ≤ 1000000) : Calls Tryz.prog 223 #[.slice none 0 0, .int .i64 k] w fun e w' => ∃ v, e = .returned v ∧ Chg [] w w' ∧ w'.ownsRow w.heap.size 5 1 v 0 (Lib.byteCells []) := by
  obtain ⟨i, hi0, hz, hz1, hz2⟩ := info_parts inf5c
  have hr := fun ty => run_append_nil_zeros (P := Tryz.prog) w 23 3 ty 5 i (.int .u8 0) .i64 .i64 ty23 (by kernel_rfl) hi0 hz k h0 (by omega) (by omega) (by rw [hz2]; omega)
  have hge := grownCap_ge w k 0 5
  have hle := grownCap_le_maxLen w k 0 5 (by unfold maxLen; omega)
  have hsz : (Builtin.zeroCells (Value.int .u8 0).cells k ++ Builtin.zeroCells (Value.int .u8 0).cells (grownCap w k 0 5 - k)).size = grownCap w k 0 5 * 1 := by
    simp only [Array.size_append, size_zeroCells, Value.cells]
    simp
    omega
  generalize (Builtin.zeroCells (Value.int .u8 0).cells k ++ Builtin.zeroCells (Value.int .u8 0).cells (grownCap w k 0 5 - k)) = Z at *
  generalize grownCap w k 0 5 = G at *
  clear hi0 hz hz1 hz2
  have hk : ¬ ((k : Int) < 0) := by omega
  have hk2 : (k : Int) > 0 := by omega
  have hG63 : G ≤ 9223372036854775807 := by unfold maxLen at hle; omega
  have hf : (w.drew.alloc (.cells Z 5)).ownsRow w.heap.size 5 1 (.slice (some ⟨w.heap.size, 0, none⟩) 0 G) 0 (Lib.byteCells []) := by
    refine ⟨rfl, Or.inr ⟨w.heap.size, G, Z, rfl, Nat.le_refl _, heap_new w.drew _, Nat.zero_le _, hle, hsz, by simp [Lib.byteCells]⟩⟩
  have kc : Chg [] w (w.drew.alloc (.cells Z 5)) := (Chg.refl [] w).drew.then_alloc _
  go_enter Tryz.func223, Tryz.ntmps223
  go_wp2_with (at_builtin; refine Lib.wpList_append_run (w := w) rfl (.tmp 20) (.tmp 21) 23 3 rfl (.slice none 0 0) (.int .i64 k) rfl rfl _ _ (hr _) ?_)
  go_ret
  exact ⟨_, rfl, kc, hf⟩
/-- rows of bytes stand here. -/
def Rws (w : World) (A o : Nat) (ls : List (List UInt8)) : Prop := ∀ i (h : i < ls.length), ∃ pa c, w.cell? ⟨A, o + i, none⟩ = some (.slice pa ls[i].length c) ∧ Bs w pa ls[i]
theorem Rws.keep {w w' : World} {A o : Nat} {ls : List (List UInt8)} (h : Rws w A o ls) (hc : Chg [] w w') : Rws w' A o ls := fun i hi => by
  obtain ⟨pa, c, h1, h2⟩ := h i hi
  exact ⟨pa, c, hc.cell h1 (by simp), h2.chg hc⟩
theorem flat_take {ls : List (List UInt8)} {j : Nat} (h : j < ls.length) : (ls.take (j + 1)).flatten = (ls.take j).flatten ++ ls[j] := by
  rw [List.take_succ_eq_append_getElem h, List.flatten_append]
  simp
theorem flat_le (ls : List (List UInt8)) (j : Nat) : (ls.take j).flatten.length ≤ ls.flatten.length := by
  conv => rhs; rw [← List.take_append_drop j ls, List.flatten_append, List.length_append]
  omega
/-- how many bytes the first rows have. -/
def flatN (ls : List (List UInt8)) (j : Nat) : Nat := (ls.take j).flatten.length
theorem flatN_succ {ls : List (List UInt8)} {j : Nat} (h : j < ls.length) : flatN ls (j + 1) = flatN ls j + ls[j].length := by
  unfold flatN
  rw [flat_take h, List.length_append]
theorem flatN_le (ls : List (List UInt8)) (j : Nat) : flatN ls j ≤ flatN ls ls.length := by
  unfold flatN
  rw [List.take_of_length_le (Nat.le_refl ls.length)]
  exact flat_le ls j
set_option maxRecDepth 100000 in
set_option maxHeartbeats 2000000 in
theorem bconcat_any (w : World) {E o cp k n : Nat} {ls : List (List UInt8)} {F : List UInt8} (hs : Rws w E o ls) (hk : ls.length = k) (hk1 : k ≤ 1000) (hF : ls.flatten = F) (hn : F.length = n) (hm0 : 0 < n) (hm : n ≤ 100000) :
    Calls Tryz.prog 203 #[.slice (some ⟨E, o, none⟩) k cp] w fun e w' => ∃ v, e = .returned v ∧ Chg [] w w' ∧ w'.ownsRow w.heap.size 5 1 v n (Lib.byteCells F) := by
  have HS := Lib.hid hs
  have HM0 := Lib.hid hm0
  have HM := Lib.hid hm
  have hN : flatN ls k = n := by unfold flatN; rw [List.take_of_length_le (by omega), hF, hn]
  have HN := Lib.hid hN
  have HF := Lib.hid hF
  have HL := Lib.hid hn
  clear hs hm0 hm hF hn hN
  go_enter Tryz.func203, Tryz.ntmps203
  go_wp2_with fail
  go_loopw [3, 5, 11] (fun s _ i wr => ∃ j : Nat, j ≤ k ∧ i = .int .i64 j ∧ s = .int .i64 (flatN ls j : Nat) ∧ w = wr) (fun _ _ i _ => k - (intOf i).toNat)
  case atStart => exact ⟨0, by omega, rfl, rfl, rfl⟩
  case round =>
    obtain ⟨j, hj, rfl, rfl, rfl⟩ := hrel
    by_cases hlt : j < k
    · obtain ⟨pa, c, c0, -⟩ := HS.out j (by omega)
      have e1 := flatN_succ (ls := ls) (j := j) (by omega)
      have hb := flatN_le ls (j + 1)
      rw [hk, HN.out] at hb
      have hM := HM.out
      have hwr : wrap64 ((flatN ls j : Int) + (ls[j]'(by omega)).length) = (flatN ls (j + 1) : Nat) := by unfold wrap64; omega
      have hge : ¬ (wrap64 ((flatN ls j : Int) + (ls[j]'(by omega)).length) < 0) := by omega
      have HW := Lib.hid hwr
      clear hwr e1 hb hM
      generalize (ls[j]'(by omega)).length = q at *
      generalize flatN ls j = p at *
      go_wp2_with fail
      exact ⟨⟨j + 1, by omega, by simp, by rw [HW.out], trivial⟩, by simp [intOf]; omega⟩
    · obtain rfl : j = k := by omega
      rw [HN.out]
      have HG := Lib.hid (bgrow_nil w HM0.out (by have := HM.out; omega))
      go_wp2_with fail
      refine HG.out.mono ?_
      rintro e w1 ⟨v0, rfl, kc, ho0⟩
      have HA := Lib.hid (HS.out.keep kc)
      have hsz := kc.size
      have hn0 : flatN ls 0 = 0 := rfl
      have ho1 : w1.ownsRow w.heap.size 5 1 v0 (flatN ls 0) (Lib.byteCells (ls.take 0).flatten) := ho0
      go_wp2_with fail
      go_loopw [6, 8, 27] (fun v _ i wr => ∃ t : Nat, t ≤ j ∧ i = .int .i64 t ∧ Chg [] w wr ∧ wr.ownsRow w.heap.size 5 1 v (flatN ls t) (Lib.byteCells (ls.take t).flatten)) (fun _ _ i _ => j - (intOf i).toNat)
      case atStart => exact ⟨0, by omega, rfl, kc, ho1⟩
      case round =>
        obtain ⟨t, ht, rfl, k1, o1⟩ := hrel
        by_cases hlt : t < j
        · obtain ⟨pa, c, c0, hbs⟩ := (HS.out.keep k1) t (by omega)
          have HB := Lib.hid hbs
          have e1 := flatN_succ (ls := ls) (j := t) (by omega)
          have hb := flatN_le ls (t + 1)
          rw [hk, HN.out] at hb
          have hM := HM.out
          have hsum : flatN ls t + (ls[t]'(by omega)).length ≤ 100000 := by omega
          have HSu := Lib.hid hsum
          have HE := Lib.hid e1
          have HT := Lib.hid (flat_take (ls := ls) (j := t) (by omega))
          have hsz1 := k1.size
          have HO := Lib.hid o1
          clear hbs e1 hb hM hsum o1
          generalize hq : ls[t]'(by omega) = q at *
          generalize flatN ls t = p at *
          generalize (ls.take t).flatten = G at *
          go_wp2_with (at_builtin; refine wpList_append_bs rfl (.tmp 31) (.tmp 32) 23 5 rfl ty23 inf5c w.heap.size _ p G rfl HO.out pa q.length c q rfl rfl HB.out (by have := HSu.out; omega) hsz1 ?_; intro v1 w2 h1)
          go_roundw
          case rel => exact ⟨t + 1, by omega, by simp, Chg.of_below (k1.below0.trans h1.2.1), by rw [HE.out, HT.out]; exact h1.1⟩
          case measure => simp [intOf]; omega
        · obtain rfl : t = j := by omega
          go_wp2_with fail
          go_ret
          rw [HN.out, List.take_of_length_le (by omega), HF.out] at o1
          exact ⟨_, rfl, k1, o1⟩
end Go.Proofs.YtfodeeejolkkfaaGreat
namespace Go.Proofs.YtfodeeejolkkfaaGreat
open Go.RowKit Go.Lib

set_option maxRecDepth 100000 in
theorem within_any (n lo hi : Int) (w : World) : Calls Tryz.prog 202 #[.int .i64 n, .int .i64 lo, .int .i64 hi] w fun e w' => e = .returned (.bool (decide (lo ≤ n) && decide (n ≤ hi))) ∧ w = w' := by
  by_cases h : lo ≤ n
  · have e1 : decide (lo ≤ n) = true := decide_eq_true h
    go_enter Tryz.func202, Tryz.ntmps202
    go_wp2_with fail
    go_ret
    exact ⟨by simp [h], rfl⟩
  · have e1 : decide (lo ≤ n) = false := decide_eq_false h
    go_enter Tryz.func202, Tryz.ntmps202
    go_wp2_with fail
    go_ret
    exact ⟨by simp, rfl⟩
theorem within_yes (n lo hi : Int) (w : World) (h0 : lo ≤ n) (h1 : n ≤ hi) : Calls Tryz.prog 202 #[.int .i64 n, .int .i64 lo, .int .i64 hi] w fun e w' => e = .returned (.bool true) ∧ w = w' := by
  refine (within_any n lo hi w).mono ?_
  rintro e w' ⟨rfl, rfl⟩
  exact ⟨by rw [decide_eq_true h0, decide_eq_true h1]; rfl, rfl⟩
/-- a frame's bytes ahead of the check sum. -/
def headF (kind epoch seq lba : Nat) (body : List UInt8) : List UInt8 := [[UInt8.ofNat kind, UInt8.ofNat body.length], leB epoch 4, leB seq 8, leB lba 4, body].flatten
def coverF (kind epoch seq lba : Nat) (body : List UInt8) : List UInt8 := headF kind epoch seq lba body ++ List.replicate (60 - (headF kind epoch seq lba body).length) 0
/-- a frame's bytes. -/
def encF (kind epoch seq lba : Nat) (body : List UInt8) : List UInt8 := coverF kind epoch seq lba body ++ leB (crcN (coverF kind epoch seq lba body)) 4
theorem headF_length (kind epoch seq lba : Nat) (body : List UInt8) : (headF kind epoch seq lba body).length = 18 + body.length := by
  simp [headF, leB_length]; omega
theorem coverF_length (kind epoch seq lba : Nat) (body : List UInt8) (h : body.length ≤ 40) : (coverF kind epoch seq lba body).length = 60 := by
  rw [coverF, List.length_append, List.length_replicate, headF_length]; omega
theorem encF_length (kind epoch seq lba : Nat) (body : List UInt8) (h : body.length ≤ 40) : (encF kind epoch seq lba body).length = 64 := by
  rw [encF, List.length_append, leB_length, coverF_length _ _ _ _ _ h]
theorem two_len (a b : UInt8) : [a, b].length = 2 := rfl
theorem small_bs {w : World} {g a b : Nat} {t : TypeId} (h : w.heap[g]? = some (.cells #[.int .u8 a, .int .u8 b] t (0, 0))) (ha : a < 256) (hb : b < 256) : Bs w (some ⟨g, 0, none⟩) [UInt8.ofNat a, UInt8.ofNat b] := by
  refine Bs.row (e := t) (fr := (0, 0)) ?_
  rw [h]
  have e1 : (UInt8.ofNat a).toNat = a := by simp; omega
  have e2 : (UInt8.ofNat b).toNat = b := by simp; omega
  simp [Lib.byteCells, e1, e2]
theorem rws_five {w : World} {E : Nat} {t : TypeId} {p0 p1 p2 p3 p4 : Option Addr} {n0 n1 n2 n3 n4 c0 c1 c2 c3 c4 : Nat} {l0 l1 l2 l3 l4 : List UInt8}
    (h : w.heap[E]? = some (.cells #[.slice p0 n0 c0, .slice p1 n1 c1, .slice p2 n2 c2, .slice p3 n3 c3, .slice p4 n4 c4] t (0, 0))) (b0 : Bs w p0 l0) (b1 : Bs w p1 l1) (b2 : Bs w p2 l2) (b3 : Bs w p3 l3) (b4 : Bs w p4 l4)
    (e0 : l0.length = n0) (e1 : l1.length = n1) (e2 : l2.length = n2) (e3 : l3.length = n3) (e4 : l4.length = n4) : Rws w E 0 [l0, l1, l2, l3, l4] := by
  subst e0 e1 e2 e3 e4
  intro i hi
  rcases (show i = 0 ∨ i = 1 ∨ i = 2 ∨ i = 3 ∨ i = 4 by simp at hi; omega) with rfl | rfl | rfl | rfl | rfl
  · exact ⟨p0, c0, cell_is h 0 rfl, b0⟩
  · exact ⟨p1, c1, cell_is h 1 rfl, b1⟩
  · exact ⟨p2, c2, cell_is h 2 rfl, b2⟩
  · exact ⟨p3, c3, cell_is h 3 rfl, b3⟩
  · exact ⟨p4, c4, cell_is h 4 rfl, b4⟩
set_option maxRecDepth 100000 in
set_option maxHeartbeats 8000000 in
theorem fencode_any (w : World) {kind epoch seq lba n c : Nat} {pa : Option Addr} {body : List UInt8} (h1 : 1 ≤ kind) (h2 : kind ≤ 4) (h3 : epoch < 4294967296) (h4 : seq ≤ 1099511627776) (h5 : lba ≤ 1048576) (hn : body.length = n) (h6 : n ≤ 40) (hb : Bs w pa body) :
    Calls Tryz.prog 159 #[.agg #[.int .i64 kind, .int .i64 epoch, .int .i64 seq, .int .i64 lba, .slice pa n c]] w fun e w' => ∃ g c', e = .returned (.tuple #[.slice (some ⟨g, 0, none⟩) 64 c', .int .i64 0]) ∧ Chg [] w w' ∧ w.heap.size ≤ g ∧ Bs w' (some ⟨g, 0, none⟩) (encF kind epoch seq lba body) ∧ Bt w' g := by
  have k1 : Chg [] w (w.alloc (.cells #[.int .i64 kind, .int .i64 epoch, .int .i64 seq, .int .i64 lba, .slice pa n c] 257)) := Chg.alloc w _
  have K1 := heap_new w (.cells #[.int .i64 kind, .int .i64 epoch, .int .i64 seq, .int .i64 lba, .slice pa n c] 257)
  have HK := Lib.hid (show (1 : Int) ≤ kind ∧ (kind : Int) ≤ 4 by omega)
  have HE := Lib.hid (show (0 : Int) ≤ epoch ∧ (epoch : Int) ≤ 4294967295 by omega)
  have HS := Lib.hid (show (0 : Int) ≤ seq ∧ (seq : Int) ≤ 1099511627776 by omega)
  have HL := Lib.hid (show (0 : Int) ≤ lba ∧ (lba : Int) ≤ 1048576 by omega)
  have e1 : IntKind.u32.wrap (epoch : Int) = epoch := by rw [IntKind.wrap_u32]; omega
  have e2 : IntKind.u64.wrap (seq : Int) = seq := by rw [IntKind.wrap_u64]; omega
  have e3 : IntKind.u32.wrap (lba : Int) = lba := by rw [IntKind.wrap_u32]; omega
  have e4 : IntKind.u8.wrap (kind : Int) = kind := by rw [IntKind.wrap_u8]; omega
  have e5 : IntKind.u8.wrap (n : Int) = n := by rw [IntKind.wrap_u8]; omega
  have e6 : ¬ ((n : Int) > 40) := by omega
  have H3 := Lib.hid h3
  have H4 := Lib.hid (show seq < 18446744073709551616 by omega)
  have H5 := Lib.hid (show lba < 4294967296 by omega)
  have HB := Lib.hid (hb.chg k1)
  have HN := Lib.hid hn
  clear hb h1 h2 h3 h4 h5
  go_enter Tryz.func159, Tryz.ntmps159
  go_upto_region 1 with fail
  generalize w.alloc (.cells #[.int .i64 kind, .int .i64 epoch, .int .i64 seq, .int .i64 lba, .slice pa n c] 257) = w1 at *
  generalize hz : w.heap.size = z at *
  have a0 : w1.cell? ⟨z, 0, none⟩ = some (.int .i64 kind) := cell_is K1 0 rfl
  have a1 : w1.cell? ⟨z, 1, none⟩ = some (.int .i64 epoch) := cell_is K1 1 rfl
  have a2 : w1.cell? ⟨z, 2, none⟩ = some (.int .i64 seq) := cell_is K1 2 rfl
  have a3 : w1.cell? ⟨z, 3, none⟩ = some (.int .i64 lba) := cell_is K1 3 rfl
  have a4 : w1.cell? ⟨z, 4, none⟩ = some (.slice pa n c) := cell_is K1 4 rfl
  go_wp2_with fail
  refine (within_yes _ _ _ _ HK.out.1 HK.out.2).mono ?_
  rintro e w2 ⟨rfl, rfl⟩
  go_wp2_with fail
  refine (within_yes _ _ _ _ HE.out.1 HE.out.2).mono ?_
  rintro e w2 ⟨rfl, rfl⟩
  go_wp2_with fail
  refine (within_yes _ _ _ _ HS.out.1 HS.out.2).mono ?_
  rintro e w2 ⟨rfl, rfl⟩
  go_wp2_with fail
  refine (within_yes _ _ _ _ HL.out.1 HL.out.2).mono ?_
  rintro e w2 ⟨rfl, rfl⟩
  go_upto_region 5 with fail
  have HK8 := Lib.hid (show kind < 256 by have := HK.out; omega)
  have HN8 := Lib.hid (show n < 256 by omega)
  have HH := Lib.hid (show (headF kind epoch seq lba body).length = 18 + n by rw [headF_length, HN.out])
  have kD0 := (Chg.refl [] w1).drew
  have hS : ∀ wx, Chg [] w1 wx → wx.cell? ⟨z, 0, none⟩ = some (.int .i64 kind) ∧ wx.cell? ⟨z, 1, none⟩ = some (.int .i64 epoch) ∧ wx.cell? ⟨z, 2, none⟩ = some (.int .i64 seq) ∧ wx.cell? ⟨z, 3, none⟩ = some (.int .i64 lba) ∧ wx.cell? ⟨z, 4, none⟩ = some (.slice pa n c) := fun wx k => ⟨k.cell a0 (by simp), k.cell a1 (by simp), k.cell a2 (by simp), k.cell a3 (by simp), k.cell a4 (by simp)⟩
  go_cut [4] from 5 (fun v wx => Chg [] w wx ∧ wx.ownsRow z 5 1 v (18 + n) (Lib.byteCells (headF kind epoch seq lba body)))
  case first =>
    go_region_held3 (fun wx => wx.cell? ⟨z, 0, none⟩ = some (.int .i64 kind) ∧ wx.cell? ⟨z, 1, none⟩ = some (.int .i64 epoch) ∧ wx.cell? ⟨z, 2, none⟩ = some (.int .i64 seq) ∧ wx.cell? ⟨z, 3, none⟩ = some (.int .i64 lba) ∧ wx.cell? ⟨z, 4, none⟩ = some (.slice pa n c))
      (first
        | (with_reducible exact hS _ kC1) | (with_reducible exact hS _ kB1) | (with_reducible exact hS _ kA1) | (with_reducible exact hS _ kD0) | (with_reducible exact hS _ kF1)
        | (with_reducible exact hS _ (kC1.then_alloc _)) | (with_reducible exact hS _ (kB1.then_alloc _)) | (with_reducible exact hS _ (kA1.then_alloc _)) | (with_reducible exact hS _ (kD0.then_alloc _))
        | (with_reducible exact hS _ ((kC1.then_alloc _).then_alloc _)) | (with_reducible exact hS _ (Chg.alloc w1 _)) | (with_reducible exact hS _ (Chg.alloc w1 _).drew))
      (first
        | (go_at_call 114; refine (put64_any _ seq H4.out).mono ?_; rintro e wB ⟨gB, rfl, kB, bB, lB⟩; have kB1 : Chg [] w1 wB := (by first | with_reducible exact kA1.then kB | with_reducible exact (kA1.then_alloc _).then kB))
        | (go_at_call 203
           refine Calls.mono (bconcat_any _ (n := 18 + n) (F := headF kind epoch seq lba body) (ls := [[UInt8.ofNat kind, UInt8.ofNat n], leB epoch 4, leB seq 8, leB lba 4, body]) ?_ rfl (by decide) (by rw [headF, HN.out]) HH.out (by omega) (by omega)) ?_
           · first
             | (with_reducible exact rws_five (heap_new _ _) (Bs.chg (Bs.chg (Bs.chg (Bs.chg (Bs.chg (small_bs (heap_new _ _) HK8.out HN8.out) (Chg.refl [] _).drew) kA) kB) kC) (Chg.alloc _ _)) (Bs.chg (Bs.chg (Bs.chg bA kB) kC) (Chg.alloc _ _)) (Bs.chg (Bs.chg bB kC) (Chg.alloc _ _)) (Bs.chg bC (Chg.alloc _ _)) (Bs.chg (Bs.chg HB.out kC1) (Chg.alloc _ _)) (two_len _ _) (leB_length _ _) (leB_length _ _) (leB_length _ _) HN.out)
             | (with_reducible exact rws_five (heap_new _ _) (Bs.chg (Bs.chg (Bs.chg (small_bs (heap_new _ _) HK8.out HN8.out) kB) kC) (Chg.alloc _ _)) (Bs.chg (Bs.chg (Bs.chg (Bs.chg bA (Chg.alloc _ _)) kB) kC) (Chg.alloc _ _)) (Bs.chg (Bs.chg bB kC) (Chg.alloc _ _)) (Bs.chg bC (Chg.alloc _ _)) (Bs.chg (Bs.chg HB.out kC1) (Chg.alloc _ _)) (two_len _ _) (leB_length _ _) (leB_length _ _) (leB_length _ _) HN.out)
             | (with_reducible exact rws_five (heap_new _ _) (Bs.chg (Bs.chg (small_bs (heap_new _ _) HK8.out HN8.out) kC) (Chg.alloc _ _)) (Bs.chg (Bs.chg (Bs.chg (Bs.chg bA kB) (Chg.alloc _ _)) kC) (Chg.alloc _ _)) (Bs.chg (Bs.chg (Bs.chg bB (Chg.alloc _ _)) kC) (Chg.alloc _ _)) (Bs.chg bC (Chg.alloc _ _)) (Bs.chg (Bs.chg HB.out kC1) (Chg.alloc _ _)) (two_len _ _) (leB_length _ _) (leB_length _ _) (leB_length _ _) HN.out)
             | (with_reducible exact rws_five ((two_new _ _ _).2) (small_bs (two_new _ _ _).1 HK8.out HN8.out) (Bs.chg (Bs.chg (Bs.chg (Bs.chg bA kB) kC) (Chg.alloc _ _)) (Chg.alloc _ _)) (Bs.chg (Bs.chg (Bs.chg bB kC) (Chg.alloc _ _)) (Chg.alloc _ _)) (Bs.chg (Bs.chg bC (Chg.alloc _ _)) (Chg.alloc _ _)) (Bs.chg (Bs.chg (Bs.chg HB.out kC1) (Chg.alloc _ _)) (Chg.alloc _ _)) (two_len _ _) (leB_length _ _) (leB_length _ _) (leB_length _ _) HN.out)
           rintro e wF ⟨vF, rfl, kF, oF⟩
           have kF1 : Chg [] w1 wF := (by first | with_reducible exact (kC1.then_alloc _).then kF | with_reducible exact ((kC1.then_alloc _).then_alloc _).then kF))
        | (go_at_call 117; with_reducible refine Calls.mono (put32_any _ epoch H3.out) ?_; rintro e wA ⟨gA, rfl, kA, bA, lA⟩; have kA1 : Chg [] w1 wA := (by first | with_reducible exact kD0.then kA | with_reducible exact ((Chg.alloc w1 _).drew).then kA | with_reducible exact (kD0.then_alloc _).then kA))
        | (go_at_call 117; with_reducible refine Calls.mono (put32_any _ lba H5.out) ?_; rintro e wC ⟨gC, rfl, kC, bC, lC⟩; have kC1 : Chg [] w1 wC := (by first | with_reducible exact kB1.then kC | with_reducible exact (kB1.then_alloc _).then kC)))
    all_goals
      have kw := k1.then kF1
      have oz := own_base (base' := z) oF (by first | exact hz ▸ (k1.then (kC1.then_alloc _)).size | exact hz ▸ (k1.then ((kC1.then_alloc _).then_alloc _)).size)
      clear kF oF hS
      go_wp2_with fail
      go_meet
      exact ⟨kw, oz⟩
  case rest =>
    obtain ⟨kw, oz⟩ := hcut
    obtain ⟨p4, c4, rfl, -⟩ := own_form oz
    have hzc : z ≤ wc.heap.size := hz ▸ kw.size
    have hk42 : (60 : Int) - ((18 + n : Nat) : Int) = ((42 - n : Nat) : Int) := by omega
    have HCo := Lib.hid (show headF kind epoch seq lba body ++ List.replicate (42 - n) 0 = coverF kind epoch seq lba body by rw [coverF, HH.out]; congr 2; omega)
    have HLc := Lib.hid (show (coverF kind epoch seq lba body).length = 18 + n + (42 - n) by rw [coverF_length _ _ _ _ _ (by rw [HN.out]; omega)]; omega)
    have h60 : 18 + n + (42 - n) = 60 := by omega
    have H60 := Lib.hid h60
    have HEn := Lib.hid (show encF kind epoch seq lba body = coverF kind epoch seq lba body ++ leB (crcN (coverF kind epoch seq lba body)) 4 from rfl)
    have HEl := Lib.hid (encF_length kind epoch seq lba body (by rw [HN.out]; omega))
    have OZ := Lib.hid oz
    clear oz hS kD0 K1 a0 a1 a2 a3 a4 e1 e2 e3 e4 e5 e6 h60 hk42 k1
    generalize headF kind epoch seq lba body = hf at *
    generalize coverF kind epoch seq lba body = cf at *
    have hwn : wrap64 (60 - ((18 + n : Nat) : Int)) = ((42 - n : Nat) : Int) := by unfold wrap64; omega
    go_wp2_with (at_builtin; refine wpList_append_zeros rfl (.tmp 57) (.tmp 60) 23 3 5 rfl ty23 .i64 (by kernel_rfl) inf5c z _ (18 + n) hf rfl OZ.out .i64 (42 - n) _ (by omega) rfl (by omega) hzc ?_; intro v5 w5 h5)
    have o5 := h5.1
    rw [HCo.out, H60.out] at o5
    have k5 : Chg [] w w5 := Chg.of_below (Below.trans kw.below0 (by rw [hz]; exact h5.2.1))
    obtain ⟨p5, c5, rfl, -⟩ := own_form o5
    have b5 := Bs.own o5
    have hl5 := HLc.out
    rw [H60.out] at hl5
    refine (crc_of w5 b5 hl5 (by omega)).mono ?_
    rintro e w6 ⟨rfl, k6⟩
    have O6 := Lib.hid (own_keep o5 k6.below0)
    have HCn := Lib.hid (crcN_lt cf)
    have k56 := k5.then k6
    clear h5 o5 b5 hl5 OZ HCo hzc
    have hz6 : z ≤ w6.heap.size := hz ▸ k56.size
    go_wp2_with fail
    refine (put32_any w6 (crcN cf) HCn.out).mono ?_
    rintro e w7 ⟨g7, rfl, k7, b7, l7⟩
    have O7 := Lib.hid (own_keep O6.out k7.below0)
    have B7 := Lib.hid b7
    have hz7 : z ≤ w7.heap.size := hz ▸ (k56.then k7).size
    clear b7
    go_wp2_with (at_builtin; refine wpList_append_bs rfl (.tmp 62) (.tmp 65) 23 5 rfl ty23 inf5c z _ 60 cf rfl O7.out _ 4 4 (leB (crcN cf) 4) rfl (leB_length _ _) B7.out (by omega) hz7 ?_; intro v8 w8 h8)
    go_ret2
    have o8 := h8.1
    rw [← HEn.out] at o8
    obtain ⟨g8, c8, rfl, hb8, hbt⟩ : ∃ g c, v8 = .slice (some ⟨g, 0, none⟩) 64 c ∧ z ≤ g ∧ Bt w8 g := by
      rcases o8.2 with ⟨_, h0⟩ | ⟨g, cap, cur, e, hA, hgt, -⟩
      · omega
      · exact ⟨g, cap, e, hA, cur, hgt⟩
    exact ⟨g8, c8, rfl, Chg.of_below (Below.trans (k56.then k7).below0 (by rw [hz]; exact h8.2.1)), by omega, Bs.own o8, hbt⟩
end Go.Proofs.YtfodeeejolkkfaaGreat
namespace Go.Proofs.YtfodeeejolkkfaaGreat
open Go.RowKit Go.Lib

theorem nodup_new {w wr : World} {N : Nat} {Z : List Nat} {v : Value} (h : NewInv w wr N Z v) (hn : Z.Nodup) : (Z ++ [wr.heap.size]).Nodup := by
  rw [List.nodup_append]
  refine ⟨hn, by simp, fun a ha b hb => ?_⟩
  rw [List.mem_singleton] at hb
  subst hb
  have := heap_lt (h.2.2.2.2.2.2 a ha).2
  omega
/-- .. and the pointers' block is of its type, the zones are unlike. -/
def NewR2 (w : World) (e : Ending) (w' : World) : Prop :=
  ∃ N A c Z, e = .returned (.tuple #[.pointer (some ⟨N, 0, none⟩), .int .i64 0]) ∧ Chg [] w w' ∧ DevAt w' N A c 0 Z ∧ DevOk N A Z ∧ w.heap.size ≤ N ∧ w.heap.size ≤ A ∧ (∀ z ∈ Z, w.heap.size ≤ z) ∧ (∃ cs, w'.heap[A]? = some (.cells cs 131 (0, 0))) ∧ Z.Nodup
theorem NewInv.done2 {w wr : World} {N : Nat} {Z : List Nat} {v : Value} (h : NewInv w wr N Z v) (h8 : Z.length = 8) (hn : Z.Nodup) : NewR2 w (.returned (.tuple #[.pointer (some ⟨N, 0, none⟩), .int .i64 0])) wr := by
  obtain ⟨hc, hN, hN1, hv, hb, ho, hz⟩ := h
  rcases ho.2 with ⟨rfl, h0⟩ | ⟨A, c, cur, rfl, hA, hh, hle, _, hcs, htk⟩
  · omega
  · refine ⟨N, A, c, Z, rfl, hc, ⟨by rw [h8] at hb; exact hb, by omega, h8, ?_, fun j hj => (hz _ (List.getElem_mem hj)).2⟩, ⟨by omega, ?_, ?_⟩, hN, by omega, fun z hm => by have := (hz z hm).1; omega, ⟨_, hh⟩, hn⟩
    · intro j hj
      refine cell_is hh j ?_
      have h1 : (cur.toList.take (Z.length * 1))[j]? = (ptrs Z)[j]? := by rw [htk]
      rw [List.getElem?_take_of_lt (by omega), Array.getElem?_toList] at h1
      rw [h1]
      simp [ptrs, hj]
    · intro hm; have := (hz _ hm).1; omega
    · intro hm
      have h2 := (hz _ hm).2
      rw [hh] at h2
      injection h2 with h2
      injection h2 with e1 e2
      cases e2
set_option maxRecDepth 100000 in
set_option maxHeartbeats 1000000 in
theorem new_any2 (w : World) : Calls Tryz.prog 41 #[.agg #[.int .i64 8, .int .i64 96]] w (NewR2 w) := by
  go_enter Tryz.func41, Tryz.ntmps41
  go_wp2_with fail
  have hI : NewInv w ((w.alloc (.cells #[.int .i64 8, .int .i64 96] 80)).alloc (.cells #[.int .i64 8, .int .i64 96, .slice none 0 0, .int .i64 0, .int .i64 0, .bool false, .int .i64 0, .bool false] 130)) (w.heap.size + 1) [] (.slice none 0 0) :=
    ⟨chg_two w _ _, by omega, by simp, ⟨_, _, _, rfl⟩, (two_new w _ _).2, World.ownsRow_nil _ _ _ _, fun z hz => by cases hz⟩
  go_loopw [28] (fun i wr => ∃ (j : Nat) (Z : List Nat) (v : Value), i = .int .i64 j ∧ Z.length = j ∧ j ≤ 8 ∧ NewInv w wr (w.heap.size + 1) Z v ∧ Z.Nodup) (fun i _ => 8 - (intOf i).toNat)
  case atStart => exact ⟨0, [], _, rfl, rfl, by omega, hI, List.nodup_nil⟩
  case round =>
    obtain ⟨j, Z, v, rfl, rfl, hj, hN, hnd⟩ := hrel
    clear hI
    by_cases hlt : Z.length < 8
    · obtain ⟨p, m, c, rfl⟩ := hN.2.2.2.1
      have hb := hN.2.2.2.2.1
      have ho := hN.2.2.2.2.2.1
      have hsz := hN.2.2.1
      have e2 : wr.cell? ⟨w.heap.size + 1, 2, none⟩ = some (.slice p m c) := cell_is hb 2 rfl
      have HS := Lib.hid (fun v' w2 => NewInv.step (v' := v') (w2 := w2) hN rfl)
      have HK := Lib.hid (fun v' w2 n xs => NewInv.cell (v' := v') (w2 := w2) (n := n) (xs := xs) hN rfl)
      have hown := ho.alloc (.cells #[.slice none 0 0, .int .i64 0] 134)
      have hlt2 : w.heap.size + 1 + 1 ≤ (wr.alloc (.cells #[.slice none 0 0, .int .i64 0] 134)).heap.size := by simp; omega
      have hnd2 := Lib.hid (nodup_new hN hnd)
      clear hN hb ho
      go_wp2_with (at_builtin; refine wpList_append_lit rfl (.tmp 34) (.tmp 37) 128 131 rfl ty128 inf131 rfl (by decide) (w.heap.size + 1 + 1) _ [.pointer (some ⟨wr.heap.size, 0, none⟩)] 1 rfl _ Z.length (ptrs Z) rfl hown (by omega) (by decide) hlt2 (k := 0) rfl (by simp [Value.oneCell']) rfl 1 (by simp [go_sem]) ?_; intro v' w2 hap; obtain ⟨pa', c', rfl⟩ := own_slice hap.1; obtain ⟨k1, k2⟩ := HK.out _ _ _ _ hap)
      have hst := HS.out _ _ hap
      go_roundw
      case rel => exact ⟨Z.length + 1, Z ++ [wr.heap.size], _, by go_num, by simp, by omega, hst, hnd2.out⟩
      case measure => simp [intOf]; omega
    · have hD := hN.done2 (by omega) hnd
      go_wp2_with fail
      go_ret2
      exact hD
/-- what else a store holds: its slots are empty, its device's blocks are apart. -/
def ExAt (w : World) (S N A : Nat) (Z : List Nat) : Prop := SlotAt w S N ∧ (∃ cs, w.heap[A]? = some (.cells cs 131 (0, 0))) ∧ Z.Nodup
theorem ExAt.keep {w w' : World} {T : List Nat} {S N A : Nat} {Z : List Nat} (h : ExAt w S N A Z) (hc : Chg T w w') (h1 : S ∉ T) (h2 : A ∉ T) : ExAt w' S N A Z := by
  obtain ⟨a, ⟨cs, b⟩, c⟩ := h
  exact ⟨hc.heap a h1, ⟨cs, hc.heap b h2⟩, c⟩
theorem ExAt.keep0 {w w' : World} {S N A : Nat} {Z : List Nat} (h : ExAt w S N A Z) (hc : Chg [] w w') : ExAt w' S N A Z := h.keep hc (by simp) (by simp)
theorem ExAt.keepO {w w' : World} {base S N A : Nat} {Z : List Nat} (h : ExAt w S N A Z) (hc : Ow base w w') : ExAt w' S N A Z := by
  obtain ⟨a, ⟨cs, b⟩, c⟩ := h
  exact ⟨hc.heap a (by simp), ⟨cs, hc.heap b (by simp)⟩, c⟩
set_option maxRecDepth 100000 in
set_option maxHeartbeats 1000000 in
theorem wbegin2 (w : World) {base N A c : Nat} {Z : List Nat} {P S M X rx B rb r K G Y : Nat} (h : Sm w base N A c Z P S M X rx B rb r) (hG : RmAt w G Y (.slice none 0 0) (.slice none 0 0) (.slice none 0 0) 0) (hK : WdAt w K P G 0) (hb : base ≤ G ∧ base ≤ K) (hx : ExAt w S N A Z) :
    Calls Tryz.prog 45 #[.pointer (some ⟨K, 0, none⟩)] w fun e w' => e = .returned (.bool true) ∧ ∃ d, d.P = P ∧ ExAt w' d.S d.N d.A d.Z ∧ Chg [K, G, B, rb, r] w w' ∧ Sn w' w.heap.size d f0 0 0 ∧ WdAt w' K P G 1 := by
  have c0 : w.cell? ⟨K, 0, none⟩ = some (.pointer (some ⟨P, 0, none⟩)) := cell_is hK 0 rfl
  obtain ⟨l1, l2, l3, l4, l5, l6, l7, l8, l9⟩ := h.low
  have hGl := heap_lt hG
  have hKG : K ≠ G := heap_ne hK hG (by simp)
  have hbk := h.mg.book
  have hmp := h.mg.map
  go_enter Tryz.func45, Tryz.ntmps45
  go_wp2_with fail
  refine (sbegin_any w h.store h.mg).mono ?_
  rintro e w1 ⟨T, W, rw, Q, V, rfl, k1, hP1, hM1, hT1, n1, n2, n3, b1, b2, b3⟩
  have nK : K ∉ [B, rb, r] := by simp; omega
  have nG : G ∉ [B, rb, r] := by simp; omega
  have hK1 : WdAt w1 K P G 0 := k1.heap hK nK
  have hG1 := k1.heap hG nG
  obtain ⟨ops, hd⟩ := h.dev
  have hne : ∀ x, x = N ∨ x = A ∨ x ∈ Z → x ∉ [B, rb, r] := fun x hx => by have := h.ap x hx; simp; omega
  have hd1 := hd.keep k1 (hne _ (Or.inl rfl)) (hne _ (Or.inr (Or.inl rfl))) (fun z hz => hne _ (Or.inr (Or.inr hz)))
  have c1 : w1.cell? ⟨K, 1, none⟩ = some (.pointer (some ⟨G, 0, none⟩)) := cell_is hK1 1 rfl
  go_wp2_with fail
  refine (rbegin_one w1 hG1).mono ?_
  rintro e w2 ⟨rfl, k2⟩
  have hK2 : WdAt w2 K P G 0 := k2.heap hK1 (by simpa using hKG)
  have c2 : w2.cell? ⟨K, 2, none⟩ = some (.int .i64 0) := cell_is hK2 2 rfl
  have f2 := unfrozen hK2 2
  have k3 := Chg.set w2 K 2 (.int .i64 1)
  have hK3 : WdAt (w2.setCell ⟨K, 2, none⟩ (.int .i64 1)) K P G 1 := heap_set hK2 2 _ rfl
  have kk : Chg [G, K] w1 (w2.setCell ⟨K, 2, none⟩ (.int .i64 1)) := (k2.mono (fun x hx _ => by simp at hx; simp [hx])).then (k3.mono (fun x hx _ => by simp at hx; simp [hx]))
  have hhi : ∀ x ∈ [G, K], base ≤ x := fun x hx => by simp at hx; omega
  have hKl := heap_lt hK
  have ha : Sta w1 base ⟨P, N, S, M, X, rx, B, rb, r, A, c, Z, T, W, rw, Q, V⟩ := ⟨hP1, ⟨ops, hd1⟩, hM1, h.low, h.lowZ⟩
  have ha2 := ha.keep kk hhi
  have hav : ∀ ts, 163 ∉ ts → 48 ∉ ts → Av w1 [G, K] ts := fun ts h1 h2 x hx cs t fr hh => by
    simp at hx
    rcases hx with rfl | rfl
    · rw [show w1.heap[x]? = _ from hG1] at hh; cases hh; exact h1
    · rw [show w1.heap[x]? = _ from hK1] at hh; cases hh; exact h2
  have nmap : ∀ {x L}, MapAt w1 x L → x ∉ [G, K] := fun hm hx => by
    simp at hx
    rcases hx with rfl | rfl
    · exact map_cells hm (show w1.heap[_]? = _ from hG1) rfl
    · exact map_cells hm (show w1.heap[_]? = _ from hK1) rfl
  have hx2 : ExAt (w2.setCell ⟨K, 2, none⟩ (.int .i64 1)) S N A Z := by
    obtain ⟨xa, ⟨cs, xb⟩, xc⟩ := hx
    have t1 : ∀ {x : Nat} {cs : Array Value} {t : TypeId}, w.heap[x]? = some (.cells cs t (0, 0)) → t ≠ 270 → t ≠ 163 → t ≠ 48 → (w2.setCell ⟨K, 2, none⟩ (.int .i64 1)).heap[x]? = some (.cells cs t (0, 0)) := by
      intro x cs t hh e1 e2 e3
      have a1 : x ≠ B := heap_ne hh hbk.1 (by intro e; cases e; exact e1 rfl)
      have a2 := (map_cells hbk.2 hh).symm
      have a3 := (map_cells hmp hh).symm
      have h1 := k1.heap hh (by simp; exact ⟨a1, a2, a3⟩)
      exact kk.heap h1 ((hav [t] (by simpa using e2.symm) (by simpa using e3.symm)).ne h1 (by simp))
    exact ⟨t1 xa (by decide) (by decide) (by decide), ⟨cs, t1 xb (by decide) (by decide) (by decide)⟩, xc⟩
  have hfin : Sn (w2.setCell ⟨K, 2, none⟩ (.int .i64 1)) w.heap.size ⟨P, N, S, M, X, rx, B, rb, r, A, c, Z, T, W, rw, Q, V⟩ f0 0 0 := by
    have hv1 : Vw w1 w.heap.size Q X W V 0 := ⟨_, 0, [], hT1.view, Nat.le_refl _, World.ownsRow_nil _ _ _ _⟩
    have hs1 : SpV w1 w.heap.size V 0 := ⟨_, [], hT1.spans, Nat.le_refl _, World.ownsRow_nil _ _ _ _⟩
    refine ⟨⟨⟨ha2.store, ha2.dev, ha2.mg, ⟨by show P < _; omega, by show N < _; omega, by show A < _; omega, by show M < _; omega, by show X < _; omega, by show rx < _; omega, by show B < _; omega, by show rb < _; omega, by show r < _; omega⟩, fun z hz => by have := h.lowZ z hz; omega⟩, kk.heap hT1.tx ((hav [173] (by simp) (by simp)).ne hT1.tx (by simp)),
      ⟨[], hT1.buf.keep kk ((hav [272] (by simp) (by simp)).ne hT1.buf.1 (by simp)) (nmap hT1.buf.2), Nat.le_refl _, fun b _ _ => Or.inl ⟨rfl, zero_pack⟩⟩,
      hv1.keep kk (hav _ (by simp) (by simp)), hs1.keep kk (hav _ (by simp) (by simp)), b2, b3, b1⟩, f0_five⟩
  have hch : Chg [K, G, B, rb, r] w (w2.setCell ⟨K, 2, none⟩ (.int .i64 1)) := (k1.mono (fun x hx _ => by simp at hx; simp; omega)).then (kk.mono (fun x hx _ => by simp at hx; simp; omega))
  clear hbk hmp h ha ha2 hd hd1 hG hG1 hK1 hK2 k1 k2 k3 kk hM1 hT1 hP1 hav nmap
  go_wp2_with fail
  go_ret
  exact ⟨rfl, _, rfl, hx2, hch, hfin, hK3⟩
/-- a new world of law 26, and what its store holds beside. -/
def FrR2 (w : World) (e : Ending) (w' : World) : Prop :=
  ∃ base d K G, e = .returned (.tuple #[.pointer (some ⟨K, 0, none⟩), .bool true]) ∧ Chg [] w w' ∧ Sn w' base d f0 0 0 ∧ WdAt w' K d.P G 1 ∧ w.heap.size ≤ base ∧ ExAt w' d.S d.N d.A d.Z
set_option maxRecDepth 100000 in
set_option maxHeartbeats 2000000 in
theorem fresh_any2 (w : World) : Calls Tryz.prog 16 #[] w (FrR2 w) := by
  have kg : Chg [] w (w.alloc (.cells #[.int .i64 8, .int .i64 96] 80)) := Chg.alloc w _
  have g0 := heap_new w (.cells #[.int .i64 8, .int .i64 96] 80)
  have a0 : (w.alloc (.cells #[.int .i64 8, .int .i64 96] 80)).cell? ⟨w.heap.size, 0, none⟩ = some (.int .i64 8) := cell_is g0 0 rfl
  have a1 : (w.alloc (.cells #[.int .i64 8, .int .i64 96] 80)).cell? ⟨w.heap.size, 1, none⟩ = some (.int .i64 96) := cell_is g0 1 rfl
  go_enter Tryz.func16, Tryz.ntmps16
  go_wp2_with fail
  generalize w.alloc (.cells #[.int .i64 8, .int .i64 96] 80) = w0 at *
  have hw0 := kg.size
  generalize hz0 : w.heap.size = z0 at *
  refine (new_any2 w0).mono ?_
  rintro e w1 ⟨N, A, c, Z, rfl, k1, hD, hO, lN, lA, lZ, hAx, hZn⟩
  have g1 := k1.heap g0 (by simp)
  have hs1 := k1.size
  have hAl := hD.A_lt
  have hNl := heap_lt hD.1
  have hZl : ∀ z ∈ Z, z < w1.heap.size := fun z hz => by
    obtain ⟨j, hj, e⟩ := List.getElem_of_mem hz
    rw [← e]
    exact heap_lt (hD.2.2.2.2 j hj)
  clear a0 a1
  go_wp2_with fail
  refine (mount_any w1 hD hO hZl (by omega) (by omega)).mono ?_
  rintro e w2 ⟨P, S, M, X, rx, B, rb, r, rfl, hM, lP, lS, lM, lX, lrx, lB, lrb, lr, n1, n2, n3⟩
  obtain ⟨k2, hD2, hP2, hS2, hm2, hx2, hb2, hr2⟩ := hM
  have h0l := heap_lt g0
  have hX2 : ExAt w2 S N A Z := by
    obtain ⟨cs, hAx⟩ := hAx
    exact ⟨hS2, ⟨cs, k2.heap hAx (by intro hm; rcases List.mem_cons.1 hm with e | hm; exact hO.1 e; exact hO.2.2 hm)⟩, hZn⟩
  have g2 := k2.heap g1 (by
    intro hm
    rcases List.mem_cons.1 hm with e | hm
    · omega
    · have := lZ _ hm; omega)
  have hs2 := k2.size
  have b0 : w2.cell? ⟨z0, 0, none⟩ = some (.int .i64 8) := cell_is g2 0 rfl
  have b1 : w2.cell? ⟨z0, 1, none⟩ = some (.int .i64 96) := cell_is g2 1 rfl
  have hSm : Sm w2 w2.heap.size N A c Z P S M X rx B rb r := by
    refine ⟨hP2, ⟨_, hD2⟩, ⟨hm2, hx2, hb2, hr2, n1, n2, n3⟩, ?_, fun z hz => Nat.lt_of_lt_of_le (hZl z hz) hs2, ?_⟩
    · have := heap_lt hP2; have := heap_lt hm2; have := heap_lt hx2.1; have := hx2.2.lt; have := heap_lt hb2.1; have := hb2.2.lt; have := hr2.lt; omega
    · rintro x (rfl | rfl | hx)
      · omega
      · omega
      · have := hZl x hx; omega
  have kk2 : Chg [] w w2 := (kg.then k1).trans k2 (fun x hx hlt => by
    rcases List.mem_cons.1 hx with e | hx
    · have := kg.size; omega
    · have := lZ x hx; have := kg.size; omega)
  clear hD hO hP2 hD2 hS2 hm2 hx2 hb2 hr2 k2 g1 g0 k1 kg
  go_wp2_with fail
  refine (rcap_min w2).mono ?_
  rintro e w3 ⟨rfl, k3⟩
  have h3 := hSm.keep k3 (fun x hx => by cases hx)
  have kk3 := kk2.then k3
  have hs3 := k3.size
  clear hSm b0 b1 g2
  go_wp2_with fail
  refine (rm_new w3).mono ?_
  rintro e w4 ⟨G, Y, rfl, k4, hG, lG⟩
  have h4 := h3.keep k4 (fun x hx => by cases hx)
  have kk4 := kk3.then k4
  have hs4 := k4.size
  clear h3
  go_wp2_with fail
  have k5 : Chg [] w4 (w4.alloc (.cells #[.pointer (some ⟨P, 0, none⟩), .pointer (some ⟨G, 0, none⟩), .int .i64 0] 48)) := Chg.alloc w4 _
  have hK := heap_new w4 (.cells #[.pointer (some ⟨P, 0, none⟩), .pointer (some ⟨G, 0, none⟩), .int .i64 0] 48)
  have h5 := h4.keep k5 (fun x hx => by cases hx)
  have hG5 := k5.heap hG (by simp)
  have hX5 := ((hX2.keep0 k3).keep0 k4).keep0 k5
  refine (wbegin2 _ h5 hG5 hK (by omega) hX5).mono ?_
  rintro e w6 ⟨rfl, d, hP, hX6, k6, hn, hw⟩
  subst hP
  have hfin : Chg [] w w6 := (kk4.then k5).trans k6 (fun x hx hlt => by
    simp at hx
    have := kk2.size
    omega)
  have hbase : z0 ≤ (w4.alloc (.cells #[.pointer (some ⟨d.P, 0, none⟩), .pointer (some ⟨G, 0, none⟩), .int .i64 0] 48)).heap.size := by have := (kk4.then k5).size; omega
  clear hX2 hX5 h4 h5 hG hG5 hK k5 k6 kk4 kk3 kk2
  go_wp2_with fail
  go_ret2
  exact ⟨_, d, _, G, rfl, hfin, hn, hw, by rw [hz0]; exact hbase, hX6⟩
end Go.Proofs.YtfodeeejolkkfaaGreat
namespace Go.Proofs.YtfodeeejolkkfaaGreat
open Go.RowKit Go.Lib

theorem ty132 : Tryz.prog.underlying 132 = some (.slice 23) := by kernel_rfl
theorem inf23 : (Tryz.prog.info? 23).map (fun i => (i.zero, i.size, i.bytes)) = some (some (.slice none 0 0), 1, 24) := by kernel_rfl
/-- some bytes are put behind the rows of an own row, as a step of a region that draws. -/
theorem step_append_bk {ops : Array Oper} {o : Oper} {a : Act} {w : World} {K : Act → World → Prop} {Q : Exit → Act → World → Prop} {E : Prop} (hgd : o.guard = none) (s x : Operand)
    (ho : o.op = .call { callee := .builtin .append, args := #[s, x], argTypes := #[132, 132] }) (base : Nat) (v : Value) (n : Nat) (xs : List Value) (hs : a.eval s = v) (hown : w.ownsRow base 23 1 v n xs) (b c : Nat) (u0 : Value)
    (hx : a.eval x = .slice (some ⟨b, 0, none⟩) 1 c) (c0 : w.cell? ⟨b, 0, none⟩ = some u0) (h1 : u0.oneCell' = true) (hn : n ≤ 1000000) (hbase : base ≤ w.heap.size)
    (h : ∀ g cap w', w'.ownsRow base 23 1 (.slice (some ⟨g, 0, none⟩) (n + 1) cap) (n + 1) (xs ++ [u0]) → Chg v.ownBlock.toList w w' → (v.ownBlock = some g ∨ g = w.heap.size) → K (a.put o.dst (.slice (some ⟨g, 0, none⟩) (n + 1) cap)) w') :
    if Region.wanted o (yielded ops a.tmps) = true then Oper.wp Tryz.prog o a w K Q else E := by
  obtain ⟨i, hi0, hz, hz1, hz2⟩ := info_parts inf23
  refine step_append_lies w hgd s x 132 ho base 23 i _ 1 24 ty132 hi0 hz hz1 hz2 rfl (by decide) v n xs hs hown ⟨b, 0, none⟩ 1 c [u0] hx rfl ?_ ?_ (by decide) (by unfold maxLen; omega) (by omega) hbase _ rfl ?_
  · intro j u hu
    rw [add_lit, Nat.zero_add]
    match j with
    | 0 => cases hu; exact c0
    | j + 1 => simp at hu
  · intro u hu
    simp at hu
    rcases hu with rfl
    exact h1
  · intro g cap w' h2 h3 h4 _
    refine h g cap w' h2 ?_ h4
    cases hv : v.ownBlock with
    | none => rw [hv] at h3; exact Chg.of_grown0 h3
    | some k => rw [hv] at h3; exact Chg.of_grown h3
/-- rows of bytes in a row of slices. -/
def RowsAt (w : World) (base : Nat) (v : Value) (l : List (List UInt8)) : Prop :=
  ∃ xs, w.ownsRow base 23 1 v l.length xs ∧ ∀ i (h : i < l.length), ∃ g c, xs[i]? = some (.slice (some ⟨g, 0, none⟩) 64 c) ∧ Bs w (some ⟨g, 0, none⟩) l[i] ∧ l[i].length = 64 ∧ Bt w g
theorem Bt.keep {w w' : World} {T : List Nat} {g : Nat} (h : Bt w g) (hc : Chg T w w') (hg : g ∉ T) : Bt w' g := by
  obtain ⟨cs, h⟩ := h
  exact ⟨cs, hc.heap h hg⟩
theorem Bt.av {w : World} {T ts : List Nat} {g : Nat} (h : Bt w g) (hT : Av w T ts) (h5 : 5 ∈ ts) : g ∉ T := by
  obtain ⟨cs, h⟩ := h
  exact hT.ne h h5
theorem RowsAt.nil (w : World) (base : Nat) : RowsAt w base (.slice none 0 0) [] := ⟨[], World.ownsRow_nil _ _ _ _, fun i h => by simp at h⟩
theorem RowsAt.keep {w w' : World} {T : List Nat} {base : Nat} {v : Value} {l : List (List UInt8)} (h : RowsAt w base v l) (hc : Chg T w w') (hT : Av w T [5]) (hv : ∀ g, v.ownBlock = some g → g ∉ T) : RowsAt w' base v l := by
  obtain ⟨xs, ho, hx⟩ := h
  refine ⟨xs, ?_, fun i hi => ?_⟩
  · refine ⟨ho.1, ?_⟩
    rcases ho.2 with hn | ⟨g, cap, cur, rfl, hb, hg, rest⟩
    · exact Or.inl hn
    · exact Or.inr ⟨g, cap, cur, rfl, hb, hc.heap hg (hv g rfl), rest⟩
  · obtain ⟨g, c, h1, h2, h3, h4⟩ := hx i hi
    have hg := h4.av hT (by simp)
    exact ⟨g, c, h1, h2.chgT hc hg, h3, h4.keep hc hg⟩
/-- .. when a row is put behind them. -/
theorem RowsAt.push {w w' : World} {base g gb cb cap : Nat} {v : Value} {l : List (List UInt8)} {b : List UInt8} {xs : List Value} (hx : ∀ i (h : i < l.length), ∃ g c, xs[i]? = some (.slice (some ⟨g, 0, none⟩) 64 c) ∧ Bs w (some ⟨g, 0, none⟩) l[i] ∧ l[i].length = 64 ∧ Bt w g)
    (hl : xs.length = l.length) (hv : ∀ g, v.ownBlock = some g → ∃ cs, w.heap[g]? = some (.cells cs 23 (0, 0))) (ho : w'.ownsRow base 23 1 (.slice (some ⟨g, 0, none⟩) (l.length + 1) cap) (l.length + 1) (xs ++ [.slice (some ⟨gb, 0, none⟩) 64 cb])) (hc : Chg v.ownBlock.toList w w')
    (hb : Bs w (some ⟨gb, 0, none⟩) b) (hb4 : b.length = 64) (hbt : Bt w gb) : RowsAt w' base (.slice (some ⟨g, 0, none⟩) (l.length + 1) cap) (l ++ [b]) := by
  have hne : ∀ {k}, Bt w k → k ∉ v.ownBlock.toList := by
    intro k hk hm
    have hm' : v.ownBlock = some k := by simpa using hm
    obtain ⟨cs, h1⟩ := hv k hm'
    obtain ⟨cs2, h2⟩ := hk
    rw [h1] at h2
    cases h2
  refine ⟨xs ++ [.slice (some ⟨gb, 0, none⟩) 64 cb], by rw [List.length_append]; exact ho, fun i hi => ?_⟩
  by_cases h : i < l.length
  · obtain ⟨g, c, h1, h2, h3, h4⟩ := hx i h
    rw [List.getElem_append_left h]
    exact ⟨g, c, by rw [List.getElem?_append_left (by omega)]; exact h1, h2.chgT hc (hne h4), h3, h4.keep hc (hne h4)⟩
  · have hi2 : i = l.length := by simp at hi; omega
    subst hi2
    refine ⟨gb, cb, by rw [← hl]; simp, ?_, ?_, hbt.keep hc (hne hbt)⟩
    · rw [List.getElem_append_right (Nat.le_refl _)]
      simpa using hb.chgT hc (hne hbt)
    · rw [List.getElem_append_right (Nat.le_refl _)]
      simpa using hb4
/-- block N is a device of eight zones: zone j has the row vs j of the blocks zs j, of which gs j are for good. -/
structure DevG (w : World) (base N A c : Nat) (ops : Int) (Z : List Nat) (vs : Nat → Value) (gs : Nat → Nat) (zs : Nat → List (List UInt8)) : Prop where
  hdr : w.heap[N]? = some (.cells #[.int .i64 8, .int .i64 96, .slice (some ⟨A, 0, none⟩) 8 c, .int .i64 ops, .int .i64 0, .bool false, .int .i64 0, .bool false] 130 (0, 0))
  cap : 8 ≤ c
  len : Z.length = 8
  tA : ∃ cs, w.heap[A]? = some (.cells cs 131 (0, 0))
  ptr : ∀ j (h : j < Z.length), w.cell? ⟨A, j, none⟩ = some (.pointer (some ⟨Z[j], 0, none⟩))
  zone : ∀ j (h : j < Z.length), w.heap[Z[j]]? = some (.cells #[vs j, .int .i64 (gs j : Nat)] 134 (0, 0))
  rows : ∀ j, j < 8 → RowsAt w base (vs j) (zs j)
  apart : ∀ i j g, i < 8 → j < 8 → i ≠ j → (vs i).ownBlock = some g → (vs j).ownBlock ≠ some g
  nodup : Z.Nodup
theorem DevAt.full {w : World} {S N A c : Nat} {ops : Int} {Z : List Nat} (h : DevAt w N A c ops Z) (hx : ExAt w S N A Z) (base : Nat) : DevG w base N A c ops Z (fun _ => .slice none 0 0) (fun _ => 0) (fun _ => []) :=
  ⟨h.1, h.2.1, h.2.2.1, hx.2.1, h.2.2.2.1, h.2.2.2.2, fun _ _ => RowsAt.nil w base, fun _ _ _ _ _ _ e => by simp [Value.ownBlock] at e, hx.2.2⟩
theorem RowsAt.block {w : World} {base : Nat} {v : Value} {l : List (List UInt8)} (h : RowsAt w base v l) : ∀ g, v.ownBlock = some g → ∃ cs, w.heap[g]? = some (.cells cs 23 (0, 0)) := by
  intro g hg
  obtain ⟨xs, ho, -⟩ := h
  exact (own_elem ho hg).2
/-- .. when the blocks that change are none of a device's. -/
theorem DevG.keep {w w' : World} {T : List Nat} {base N A c : Nat} {ops : Int} {Z : List Nat} {vs : Nat → Value} {gs : Nat → Nat} {zs : Nat → List (List UInt8)} (h : DevG w base N A c ops Z vs gs zs) (hc : Chg T w w') (hT : Av w T [130, 131, 134, 23, 5]) : DevG w' base N A c ops Z vs gs zs := by
  have hA : A ∉ T := by
    obtain ⟨cs, hA⟩ := h.tA
    exact hT.ne hA (by simp)
  refine ⟨hc.heap h.hdr (hT.ne h.hdr (by simp)), h.cap, h.len, ?_, fun j hj => hc.cell (h.ptr j hj) hA, fun j hj => hc.heap (h.zone j hj) (hT.ne (h.zone j hj) (by simp)), fun j hj => (h.rows j hj).keep hc (fun x hx cs t fr hh ht => hT x hx cs t fr hh (by simp at ht; simp [ht])) (fun g hg => ?_), h.apart, h.nodup⟩
  · obtain ⟨cs, hA'⟩ := h.tA
    exact ⟨cs, hc.heap hA' hA⟩
  · obtain ⟨cs, hb⟩ := (h.rows j hj).block g hg
    exact hT.ne hb (by simp)
set_option maxRecDepth 100000 in
theorem dgone_any (w : World) {base N A c : Nat} {ops : Int} {Z : List Nat} {vs : Nat → Value} {gs : Nat → Nat} {zs : Nat → List (List UInt8)} (h : DevG w base N A c ops Z vs gs zs) : Calls Tryz.prog 139 #[.pointer (some ⟨N, 0, none⟩)] w fun e w' => e = .returned (.bool false) ∧ w = w' := by
  have e2 : w.cell? ⟨N, 2, none⟩ = some (.slice (some ⟨A, 0, none⟩) 8 c) := cell_is h.hdr 2 rfl
  clear h
  go_enter Tryz.func139, Tryz.ntmps139
  go_wp2_with fail
  go_ret
  exact ⟨rfl, rfl⟩
set_option maxRecDepth 100000 in
theorem dat_any (w : World) {base N A c : Nat} {ops : Int} {Z : List Nat} {vs : Nat → Value} {gs : Nat → Nat} {zs : Nat → List (List UInt8)} (h : DevG w base N A c ops Z vs gs zs) (j : Nat) (hj : j < Z.length) : Calls Tryz.prog 118 #[.pointer (some ⟨N, 0, none⟩), .int .i64 j] w fun e w' => e = .returned (.pointer (some ⟨Z[j], 0, none⟩)) ∧ w = w' := by
  have HG := Lib.hid (dgone_any w h)
  have hc := h.cap
  have hz := h.len
  have e2 : w.cell? ⟨N, 2, none⟩ = some (.slice (some ⟨A, 0, none⟩) 8 c) := cell_is h.hdr 2 rfl
  have e3 := h.ptr j hj
  have hj8 : j < 8 := by omega
  clear h
  generalize Z[j] = z at *
  go_enter Tryz.func118, Tryz.ntmps118
  go_wp2_with fail
  refine HG.out.mono ?_
  rintro e w1 ⟨rfl, rfl⟩
  go_wp2_with fail
  go_ret
  exact ⟨rfl, rfl⟩
set_option maxRecDepth 100000 in
theorem dbegin_any (w : World) {base N A c : Nat} {ops : Int} {Z : List Nat} {vs : Nat → Value} {gs : Nat → Nat} {zs : Nat → List (List UInt8)} (h : DevG w base N A c ops Z vs gs zs) (h0 : 0 ≤ ops) (h1 : ops ≤ 1000000) : Calls Tryz.prog 119 #[.pointer (some ⟨N, 0, none⟩)] w fun e w' => e = .returned (.bool true) ∧ Chg [N] w w' ∧ DevG w' base N A c (ops + 1) Z vs gs zs := by
  have hfin : ∀ w', w' = (w.setCell ⟨N, 3, none⟩ (.int .i64 (ops + 1))).setCell ⟨N, 7, none⟩ (.bool false) → Chg [N] w w' ∧ DevG w' base N A c (ops + 1) Z vs gs zs := by
    rintro w' rfl
    have hc := (Chg.set w N 3 (.int .i64 (ops + 1))).then (Chg.set _ N 7 (.bool false))
    have hne : ∀ {g : Nat} {cs : Array Value} {t : TypeId}, w.heap[g]? = some (.cells cs t (0, 0)) → t ≠ 130 → g ∉ [N] := by
      intro g cs t hg ht hm
      rw [List.mem_singleton] at hm
      subst hm
      rw [h.hdr] at hg
      cases hg
      exact ht rfl
    obtain ⟨cA, hA⟩ := h.tA
    refine ⟨hc, heap_set (heap_set h.hdr 3 _ rfl) 7 _ rfl, h.cap, h.len, ⟨cA, hc.heap hA (hne hA (by decide))⟩, fun j hj => hc.cell (h.ptr j hj) (hne hA (by decide)), fun j hj => hc.heap (h.zone j hj) (hne (h.zone j hj) (by decide)), fun j hj => (h.rows j hj).keep hc (Av.row h.hdr (by simp)) (fun g hg => ?_), h.apart, h.nodup⟩
    obtain ⟨cs, hb⟩ := (h.rows j hj).block g hg
    exact hne hb (by decide)
  have e3 : w.cell? ⟨N, 3, none⟩ = some (.int .i64 ops) := cell_is h.hdr 3 rfl
  have e5 : w.cell? ⟨N, 5, none⟩ = some (.bool false) := cell_is h.hdr 5 rfl
  have e7 : w.cell? ⟨N, 7, none⟩ = some (.bool false) := cell_is h.hdr 7 rfl
  have f3 := unfrozen h.hdr 3
  have f7 := unfrozen h.hdr 7
  have HF := Lib.hid hfin
  clear h hfin
  go_enter Tryz.func119, Tryz.ntmps119
  go_wp2_with fail
  go_ret
  exact ⟨rfl, HF.out _ rfl⟩
end Go.Proofs.YtfodeeejolkkfaaGreat
