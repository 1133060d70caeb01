/- Lemmas and walks: Plain: doubles as whole numbers of least units. No program in this text. Plain: doubles as whole numbers of least units: reading, order, whole numbers. No program in this text. Plain: doubles: differences, ints, one divided by a number. No program in this text. Plain: a number as an int: the ways. No program in this text. Plain: a number turned in its sign; whole numbers as doubles. No program in this text. Plain: rounding to the nearest double is monotone; sums, products and quotients of numbers stay between bounds. No program in this text. Plain: sums, products and quotients of doubles between bounds; whole numbers add up exactly. No program in this text. Plain: a quotient of whole numbers stays between bounds; a number's floor. No program in this text. Float operations with any NaN as the one; walks: fsum.plain 145, fbits.Same 150, negative 142, Copysign 143, fsum.Sum 67. Walk: fsum.Sum 67. Walks: forder.most 108 the way of -1, query.Least 29, fsum.Mean 72, query.Mean 28. Walk: forder.Sort 149 (slices.SortFunc over float64, laid at this dump). Walk: forder.Sort 149. Walk: math.Floor 148. Plain: the place of a quantile. Walk: fsum.Quantile 76. Plain: the least, the greatest, the sum and the mean of whole numbers. -/
import Ieee.Arith
import Derived.Deep.CutBlock
import Derived.Shelf.SlSortCmp.NoneTotal
import Derived.BigQuiet
import Derived.Test.YtelakcjbknbehaaGreatAa
import Derived.Test.YtelakcjbknbehaaGreatAe
import Derived.Test.YtelakcjbknbehaaGreatAn
import Derived.Test.YtelakcjbknbehaaGreatAo
namespace Go.Proofs.YtelakcjbknbehaaGreat
open Ieee

/-- 'n / 2 ^ d' as a whole number, without the bound on the digits. -/
def cutW (way : Toward) (neg : Bool) (n d : Nat) : Nat :=
  n / 2 ^ d + (match way with
    | .even => decide (2 ^ d < 2 * (n % 2 ^ d)) || (2 ^ d == 2 * (n % 2 ^ d) && n / 2 ^ d % 2 == 1)
    | .down => neg && n % 2 ^ d != 0
    | .up => !neg && n % 2 ^ d != 0
    | .zero => false).toNat
theorem cut_eq (way : Toward) (neg : Bool) (n d : Nat) : way.cut neg n d = cutW way neg n d := by
  unfold Toward.cut cutW
  simp only [Nat.one_shiftLeft]
  by_cases h : d ≤ n.log2 + 2
  · rw [Nat.min_eq_left h]
    cases way <;> rfl
  · rw [Nat.min_eq_right (by omega)]
    have h1 : n < 2 ^ (n.log2 + 1) := Nat.lt_log2_self
    have h2 : 2 ^ (n.log2 + 2) = 2 * 2 ^ (n.log2 + 1) := by rw [Nat.pow_succ]; omega
    have h3 : 2 ^ (n.log2 + 2) ≤ 2 ^ d := Nat.pow_le_pow_right (by decide) (by omega)
    have e1 : n / 2 ^ (n.log2 + 2) = 0 := Nat.div_eq_of_lt (by omega)
    have e2 : n / 2 ^ d = 0 := Nat.div_eq_of_lt (by omega)
    have e3 : n % 2 ^ (n.log2 + 2) = n := Nat.mod_eq_of_lt (by omega)
    have e4 : n % 2 ^ d = n := Nat.mod_eq_of_lt (by omega)
    rw [e1, e2, e3, e4]
    cases way with
    | even =>
      have c1 : ¬ 2 ^ (n.log2 + 2) < 2 * n := by omega
      have c2 : ¬ 2 ^ d < 2 * n := by omega
      simp [c1, c2]
    | down => rfl
    | up => rfl
    | zero => rfl
theorem cutW_shift (way : Toward) (neg : Bool) (n d j : Nat) : cutW way neg (n * 2 ^ j) (d + j) = cutW way neg n d := by
  have hp : 0 < 2 ^ j := Nat.pow_pos (by decide)
  unfold cutW
  rw [Nat.pow_add, Nat.mul_div_mul_right _ _ hp, Nat.mul_mod_mul_right]
  congr 2
  have a1 : (2 ^ d * 2 ^ j < 2 * (n % 2 ^ d * 2 ^ j)) ↔ (2 ^ d < 2 * (n % 2 ^ d)) := by
    rw [← Nat.mul_assoc]; exact Nat.mul_lt_mul_right hp
  have a2 : (2 ^ d * 2 ^ j == 2 * (n % 2 ^ d * 2 ^ j)) = (2 ^ d == 2 * (n % 2 ^ d)) := by
    rw [← Nat.mul_assoc, Bool.eq_iff_iff, beq_iff_eq, beq_iff_eq]; exact Nat.mul_left_inj (by omega)
  have a3 : (n % 2 ^ d * 2 ^ j != 0) = (n % 2 ^ d != 0) := by
    rw [Bool.eq_iff_iff, bne_iff_ne, bne_iff_ne, Ne, Ne, Nat.mul_eq_zero]; omega
  cases way with
  | even => simp only [a1, a2]
  | down => simp only [a3]
  | up => simp only [a3]
  | zero => rfl
theorem cutW_zero (way : Toward) (neg : Bool) (n : Nat) : cutW way neg n 0 = n := by
  unfold cutW
  rw [Nat.pow_zero, Nat.div_one, Nat.mod_one]
  cases way <;> simp
theorem cutW_exact (way : Toward) (neg : Bool) (n j : Nat) : cutW way neg (n * 2 ^ j) j = n := by
  have := cutW_shift way neg n 0 j
  rw [Nat.zero_add, cutW_zero] at this
  exact this
theorem cutW_split (way : Toward) (neg : Bool) (m a b c : Nat) (h : c = a + b) : cutW way neg (m * 2 ^ c) b = m * 2 ^ a := by
  rw [h, Nat.pow_add, ← Nat.mul_assoc, cutW_exact]

/-- 'm * 2 ^ i' in units of 2 ^ -1074. -/
def units (m : Nat) (i : Int) : Nat := m * 2 ^ (i + 1074).toNat
/-- the magnitude at a rung, in units. -/
def valR (r : Nat) : Nat := if r < 4503599627370496 then r else (4503599627370496 + r % 4503599627370496) * 2 ^ (r / 4503599627370496 - 1)
/-- the rung nearest to so many units. -/
def rungOf (N : Nat) : Nat := if N = 0 then 0 else min ((N.log2 - 52) * 4503599627370496 + cutW .even false N (N.log2 - 52)) 9218868437227405312

theorem log2_mul (m j : Nat) (h : m ≠ 0) : (m * 2 ^ j).log2 = m.log2 + j := by
  have hp : 0 < 2 ^ j := Nat.pow_pos (by decide)
  rw [Nat.log2_eq_iff (by intro e; rcases Nat.mul_eq_zero.1 e with e | e <;> omega)]
  have h1 := Nat.log2_self_le h
  have h2 := @Nat.lt_log2_self m
  refine ⟨by rw [Nat.pow_add]; exact Nat.mul_le_mul_right _ h1, ?_⟩
  rw [show m.log2 + j + 1 = m.log2 + 1 + j by omega, Nat.pow_add]
  exact Nat.mul_lt_mul_of_pos_right h2 hp
theorem cutW_even (neg : Bool) (n d : Nat) : cutW .even neg n d = cutW .even false n d := rfl
theorem nearest_units (s : Bool) (m : Nat) (i : Int) (hi : -1074 ≤ i) : double.nearest s m i = double.word s (rungOf (units m i)) := by
  unfold Format.nearest rungOf
  by_cases hm : m = 0
  · subst hm; rw [if_pos rfl, if_pos (by simp [units])]
  · have hp : 0 < 2 ^ (i + 1074).toNat := Nat.pow_pos (by decide)
    have hu : units m i ≠ 0 := by unfold units; intro e; rcases Nat.mul_eq_zero.1 e with e | e <;> omega
    rw [if_neg hm, if_neg hu]
    have e1 : double.leastPlace = -1074 := by decide
    have e2 : double.binade = 4503599627370496 := by decide
    have e3 : double.infRung = 9218868437227405312 := by decide
    have e4 : double.fractionBits = 52 := rfl
    have hL : (units m i).log2 = m.log2 + (i + 1074).toNat := log2_mul _ _ hm
    simp only [e1, e2, e3, e4, cut_eq]
    obtain ⟨L, hLL⟩ : ∃ L, m.log2 = L := ⟨_, rfl⟩
    obtain ⟨j, hj⟩ : ∃ j : Nat, i + 1074 = j := ⟨(i + 1074).toNat, by omega⟩
    have hi' : i = (j : Int) - 1074 := by omega
    rw [hL, hLL]
    have ej : (i + 1074).toNat = j := by omega
    have k1 : (max (i + (L : Int) - ((52 : Nat) : Int)) (-1074) - -1074).toNat = L + j - 52 := by omega
    rw [ej, k1]
    have key : cutW .even s (m <<< (i - max (i + (L : Int) - ((52 : Nat) : Int)) (-1074)).toNat) (max (i + (L : Int) - ((52 : Nat) : Int)) (-1074) - i).toNat = cutW .even false (units m i) (L + j - 52) := by
      unfold units
      rw [ej, Nat.shiftLeft_eq]
      by_cases hc : 52 ≤ L
      · have k2 : (i - max (i + (L : Int) - ((52 : Nat) : Int)) (-1074)).toNat = 0 := by omega
        have k3 : (max (i + (L : Int) - ((52 : Nat) : Int)) (-1074) - i).toNat = L - 52 := by omega
        have k4 : L + j - 52 = (L - 52) + j := by omega
        rw [k2, k3, k4, cutW_shift, Nat.pow_zero, Nat.mul_one]
        rfl
      · have k3 : (max (i + (L : Int) - ((52 : Nat) : Int)) (-1074) - i).toNat = 0 := by omega
        have k5 : (i - max (i + (L : Int) - ((52 : Nat) : Int)) (-1074)).toNat = j - (L + j - 52) := by omega
        rw [k3, k5, cutW_zero]
        have := cutW_exact .even false (m * 2 ^ (j - (L + j - 52))) (L + j - 52)
        rw [Nat.mul_assoc, ← Nat.pow_add, show j - (L + j - 52) + (L + j - 52) = j by omega] at this
        rw [this]
    rw [key]
theorem integral_units (way : Toward) (s : Bool) (m : Nat) (i : Int) (hi : -1074 ≤ i) : (Datum.number s m i).integral way = .number s (cutW way s (units m i) 1074) 0 := by
  unfold Datum.integral
  simp only
  congr 1
  rw [cut_eq, Nat.shiftLeft_eq]
  unfold units
  by_cases h : 0 ≤ i
  · rw [show (-i).toNat = 0 by omega, cutW_zero]
    exact (cutW_split way s m _ _ _ (by omega)).symm
  · rw [show i.toNat = 0 by omega, Nat.pow_zero, Nat.mul_one]
    have := cutW_shift way s m (-i).toNat (i + 1074).toNat
    rw [show (-i).toNat + (i + 1074).toNat = 1074 by omega] at this
    exact this.symm

/-! rungs and units -/
theorem rung_rep (W j : Nat) (hW : W < 9007199254740992) (h0 : W ≠ 0) (hj : W.log2 + j ≤ 2097) : rungOf (W * 2 ^ j) < 9218868437227405312 ∧ valR (rungOf (W * 2 ^ j)) = W * 2 ^ j := by
  have hl := log2_mul W j h0
  have hp : 0 < 2 ^ j := Nat.pow_pos (by decide)
  have hN : W * 2 ^ j ≠ 0 := by intro e; rcases Nat.mul_eq_zero.1 e with e | e <;> omega
  have hW2 : W.log2 < 53 := (Nat.log2_lt h0).2 (by simpa using hW)
  unfold rungOf
  rw [if_neg hN, hl]
  by_cases hc : W.log2 + j ≤ 52
  · have hb : W * 2 ^ j < 2 ^ 53 := (Nat.log2_lt hN).1 (by omega)
    rw [show W.log2 + j - 52 = 0 by omega, cutW_zero, Nat.zero_mul, Nat.zero_add]
    generalize W * 2 ^ j = N at *
    rw [show (2 : Nat) ^ 53 = 9007199254740992 by decide] at hb
    rw [Nat.min_eq_left (by omega)]
    refine ⟨by omega, ?_⟩
    unfold valR
    by_cases h1 : N < 4503599627370496
    · rw [if_pos h1]
    · rw [if_neg h1, show N / 4503599627370496 - 1 = 0 by omega, Nat.pow_zero]; omega
  · obtain ⟨k, hk⟩ : ∃ k, W.log2 + j - 52 = k := ⟨_, rfl⟩
    obtain ⟨t, ht⟩ : ∃ t, j = t + k := ⟨j - k, by omega⟩
    have e1 : W * 2 ^ j = (W * 2 ^ t) * 2 ^ k := by rw [ht, Nat.pow_add, Nat.mul_assoc]
    have hlt := log2_mul W t h0
    have hNt : W * 2 ^ t ≠ 0 := by intro e; rw [e, Nat.zero_mul] at e1; exact hN e1
    have hb1 : W * 2 ^ t < 2 ^ 53 := (Nat.log2_lt hNt).1 (by omega)
    have hb2 : 2 ^ 52 ≤ W * 2 ^ t := (Nat.le_log2 hNt).1 (by omega)
    rw [hk, e1, cutW_exact]
    generalize W * 2 ^ t = M at *
    rw [show (2 : Nat) ^ 53 = 9007199254740992 by decide] at hb1
    rw [show (2 : Nat) ^ 52 = 4503599627370496 by decide] at hb2
    rw [Nat.min_eq_left (by omega)]
    refine ⟨by omega, ?_⟩
    unfold valR
    rw [if_neg (by omega), show (k * 4503599627370496 + M) / 4503599627370496 - 1 = k by omega, show 4503599627370496 + (k * 4503599627370496 + M) % 4503599627370496 = M by omega]
theorem valR_form (r : Nat) (h : r < 9218868437227405312) : ∃ W j, W < 9007199254740992 ∧ valR r = W * 2 ^ j ∧ j ≤ 2045 ∧ (j = 0 ∨ 4503599627370496 ≤ W) := by
  unfold valR
  by_cases h1 : r < 4503599627370496
  · exact ⟨r, 0, by omega, by rw [if_pos h1, Nat.pow_zero, Nat.mul_one], by omega, Or.inl rfl⟩
  · exact ⟨4503599627370496 + r % 4503599627370496, r / 4503599627370496 - 1, by omega, by rw [if_neg h1], by omega, Or.inr (by omega)⟩
theorem rungOf_valR (r : Nat) (h : r < 9218868437227405312) : rungOf (valR r) = r := by
  unfold valR
  by_cases h1 : r < 4503599627370496
  · rw [if_pos h1]
    unfold rungOf
    by_cases h0 : r = 0
    · rw [if_pos h0, h0]
    · have hl : r.log2 < 52 := (Nat.log2_lt h0).2 (by simpa using h1)
      rw [if_neg h0, show r.log2 - 52 = 0 by omega, cutW_zero]; omega
  · rw [if_neg h1]
    have hM : 4503599627370496 + r % 4503599627370496 ≠ 0 := by omega
    have hl : (4503599627370496 + r % 4503599627370496).log2 = 52 := by
      rw [Nat.log2_eq_iff hM]
      rw [show (2 : Nat) ^ 52 = 4503599627370496 by decide, show (2 : Nat) ^ (52 + 1) = 9007199254740992 by decide]; omega
    have hl2 := log2_mul _ (r / 4503599627370496 - 1) hM
    unfold rungOf
    have hp : 0 < 2 ^ (r / 4503599627370496 - 1) := Nat.pow_pos (by decide)
    rw [if_neg (by intro e; rcases Nat.mul_eq_zero.1 e with e | e <;> omega), hl2, hl, show 52 + (r / 4503599627370496 - 1) - 52 = r / 4503599627370496 - 1 by omega, cutW_exact]
    omega
end Go.Proofs.YtelakcjbknbehaaGreat
namespace Go.Proofs.YtelakcjbknbehaaGreat
open Ieee

/-- the units of 1. -/
def pw (k : Nat) : Nat := 2 ^ k
theorem pw_eq (k : Nat) : pw k = 2 ^ k := rfl
theorem pw_pos (k : Nat) : 0 < pw k := Nat.pow_pos (by decide)
theorem pw_succ (k : Nat) : pw (k + 1) = 2 * pw k := Nat.pow_succ'
def T1 : Nat := pw 1074
theorem T1_pow : T1 = 2 ^ 1074 := pw_eq 1074
theorem T1_pos : 0 < T1 := pw_pos 1074
theorem T1_half' : T1 = 2 * pw 1073 := pw_succ 1073
theorem pw_le {i j : Nat} (h : i ≤ j) : pw i ≤ pw j := Nat.pow_le_pow_right (by decide) h
theorem pw_add (t k : Nat) : 2 ^ t * pw k = 2 ^ (t + k) := by rw [pw_eq, Nat.pow_add]
theorem pw_add' (k : Nat) : pw (52 + k) = 4503599627370496 * pw k := by
  have := pw_add 52 k
  rw [← pw_eq (52 + k), show (2 : Nat) ^ 52 = 4503599627370496 by decide] at this
  exact this.symm
theorem top_pow : pw (52 + 1075) = 9007199254740992 * T1 := by
  rw [pw_add', show 1075 = 1074 + 1 from rfl, pw_succ]
  have : T1 = pw 1074 := rfl
  rw [← this]; omega
theorem units_pw (m : Nat) (i : Int) : units m i = m * pw (i + 1074).toNat := rfl
/-- finite. -/
def FinB (b : Nat) : Prop := b < 18446744073709551616 ∧ magB b < 9218868437227405312
def negB (b : Nat) : Bool := decide (9223372036854775808 ≤ b)
def sgnI (s : Bool) (n : Nat) : Int := if s then -(n : Int) else (n : Int)
/-- a finite number in units. -/
def rv (b : Nat) : Int := sgnI (negB b) (valR (magB b))

theorem read_fin {b : Nat} (h : FinB b) : ∃ m i, double.read b = .number (negB b) m i ∧ -1074 ≤ i ∧ units m i = valR (magB b) ∧ (m < 4503599627370496 → i = -1074) ∧ m < 9007199254740992 := by
  obtain ⟨h1, h2⟩ := h
  unfold Format.read
  have e1 : double.signWeight = 9223372036854775808 := by decide
  have e2 : double.binade = 4503599627370496 := by decide
  have e3 : double.infRung = 9218868437227405312 := by decide
  have e4 : double.leastPlace = -1074 := by decide
  simp only [e1, e2, e3, e4]
  have hs : (b / 9223372036854775808 % 2 == 1) = negB b := by
    unfold negB
    rw [Bool.eq_iff_iff, beq_iff_eq, decide_eq_true_iff]; omega
  rw [hs]
  unfold magB at h2 ⊢
  generalize b % 9223372036854775808 = r at *
  by_cases h3 : r < 4503599627370496
  · rw [if_pos h3]
    refine ⟨r, -1074, rfl, by omega, ?_, fun _ => rfl, by omega⟩
    unfold units valR
    rw [if_pos h3]; simp
  · rw [if_neg h3, if_pos h2]
    refine ⟨4503599627370496 + r % 4503599627370496, -1074 + ((r / 4503599627370496 - 1 : Nat) : Int), rfl, by omega, ?_, fun h => by omega, by omega⟩
    unfold units valR
    rw [if_neg h3, show (-1074 + ((r / 4503599627370496 - 1 : Nat) : Int) + 1074).toNat = r / 4503599627370496 - 1 by omega]
theorem sgn_mul (s : Bool) (n k : Nat) : sgnI s n * (k : Int) = sgnI s (n * k) := by
  unfold sgnI; cases s <;> simp [Int.neg_mul]
theorem signed_eq (s : Bool) (m k : Nat) : signed s m k = sgnI s (m * 2 ^ k) := by
  unfold signed sgnI; rw [Nat.shiftLeft_eq]
theorem units_base (m : Nat) (i base : Int) (h1 : -1074 ≤ base) (h2 : base ≤ i) : m * 2 ^ (i - base).toNat * 2 ^ (base + 1074).toNat = units m i := by
  unfold units
  rw [Nat.mul_assoc, ← Nat.pow_add]; congr 2; omega
theorem compare_mul (a b : Int) (k : Nat) (hk : 0 < k) : compare (a * (k : Int)) (b * (k : Int)) = compare a b := by
  have hk' : (0 : Int) < k := by omega
  rcases Int.lt_trichotomy a b with h | h | h
  · rw [Int.compare_eq_lt.2 h, Int.compare_eq_lt.2 (Int.mul_lt_mul_of_pos_right h hk')]
  · subst h; rw [Int.compare_eq_eq.2 rfl, Int.compare_eq_eq.2 rfl]
  · rw [Int.compare_eq_gt.2 h, Int.compare_eq_gt.2 (Int.mul_lt_mul_of_pos_right h hk')]
theorem order_num (s t : Bool) (m n : Nat) (i j : Int) (hi : -1074 ≤ i) (hj : -1074 ≤ j) :
    (Datum.number s m i).order (.number t n j) = some (compare (sgnI s (units m i)) (sgnI t (units n j))) := by
  unfold Datum.order
  simp only
  rw [signed_eq, signed_eq]
  congr 1
  have hp : 0 < 2 ^ (min i j + 1074).toNat := Nat.pow_pos (by decide)
  rw [← compare_mul _ _ _ hp, sgn_mul, sgn_mul, units_base _ _ _ (by omega) (by omega), units_base _ _ _ (by omega) (by omega)]
theorem order_fin {b c : Nat} (hb : FinB b) (hc : FinB c) : double.order b c = some (compare (rv b) (rv c)) := by
  obtain ⟨m, i, e1, h1, h2, _⟩ := read_fin hb
  obtain ⟨n, j, e2, h3, h4, _⟩ := read_fin hc
  unfold Format.order
  rw [e1, e2, order_num _ _ _ _ _ _ h1 h3, h2, h4]
  rfl
theorem word_eq (s : Bool) (r : Nat) : double.word s r = if s then 9223372036854775808 + r else r := by
  unfold Format.word; rw [show double.signWeight = 9223372036854775808 by decide]
theorem mag_word {s : Bool} {r : Nat} (h : r < 9223372036854775808) : magB (double.word s r) = r := by
  rw [word_eq]; unfold magB; cases s
  · rw [if_neg (by decide)]; omega
  · rw [if_pos rfl]; omega
theorem neg_word {s : Bool} {r : Nat} (h : r < 9223372036854775808) : negB (double.word s r) = s := by
  rw [word_eq]; unfold negB; cases s
  · rw [if_neg (by decide)]; exact decide_eq_false (by omega)
  · rw [if_pos rfl]; exact decide_eq_true (by omega)
theorem word_lt {s : Bool} {r : Nat} (h : r < 9223372036854775808) : double.word s r < 18446744073709551616 := by
  rw [word_eq]; split <;> omega
theorem word_fin {s : Bool} {r : Nat} (h : r < 9218868437227405312) : FinB (double.word s r) := ⟨word_lt (by omega), by rw [mag_word (by omega)]; exact h⟩
theorem word_rv {s : Bool} {r : Nat} (h : r < 9218868437227405312) : rv (double.word s r) = sgnI s (valR r) := by
  unfold rv; rw [mag_word (by omega), neg_word (by omega)]
theorem word_self {b : Nat} (h : b < 18446744073709551616) : double.word (negB b) (magB b) = b := by
  rw [word_eq]; unfold negB magB
  by_cases g : 9223372036854775808 ≤ b
  · rw [decide_eq_true g, if_pos rfl]; omega
  · rw [decide_eq_false g, if_neg (by decide)]; omega
/-! made whole -/
/-- the whole number that a number is made. -/
def wholeN (way : Toward) (b : Nat) : Nat := cutW way (negB b) (valR (magB b)) 1074
def wholeB (way : Toward) (b : Nat) : Nat := double.write ((double.read b).integral way)
theorem cutW_le (way : Toward) (s : Bool) (n d : Nat) : cutW way s n d ≤ n / 2 ^ d + 1 := by
  unfold cutW
  have hb : ∀ b : Bool, b.toNat ≤ 1 := by intro b; cases b <;> simp
  exact Nat.add_le_add_left (hb _) _
theorem units_zero (W : Nat) : units W 0 = W * T1 := by
  rw [units_pw, show ((0 : Int) + 1074).toNat = 1074 by omega]; exact rfl
theorem write_num (s : Bool) (m : Nat) (i : Int) (hi : -1074 ≤ i) : double.write (.number s m i) = double.word s (rungOf (units m i)) := nearest_units s m i hi
theorem whole_write {b : Nat} (way : Toward) (h : FinB b) : wholeB way b = double.word (negB b) (rungOf (wholeN way b * T1)) := by
  obtain ⟨m, i, e1, h1, h2, _⟩ := read_fin h
  unfold wholeB wholeN
  rw [e1, integral_units way _ _ _ h1, write_num _ _ _ (by omega), units_zero, h2]
theorem whole_rep (way : Toward) (s : Bool) (r : Nat) (h : r < 9218868437227405312) :
    rungOf (cutW way s (valR r) 1074 * T1) < 9218868437227405312 ∧ valR (rungOf (cutW way s (valR r) 1074 * T1)) = cutW way s (valR r) 1074 * T1 := by
  obtain ⟨M, j, hM, he, hj, _⟩ := valR_form r h
  by_cases hc : 1074 ≤ j
  · obtain ⟨t, rfl⟩ : ∃ t, j = t + 1074 := ⟨j - 1074, by omega⟩
    have e2 : cutW way s (valR r) 1074 * T1 = valR r := by
      rw [he, cutW_split way s M t 1074 _ rfl, Nat.mul_assoc]
      exact congrArg (M * ·) (pw_add t 1074)
    rw [e2, rungOf_valR r h]
    exact ⟨h, rfl⟩
  · have hd : valR r / T1 ≤ 4503599627370496 := by
      have h3 : valR r < 4503599627370497 * T1 := by
        rw [he, ← pw_eq, T1_half']
        have h4 : M * pw j ≤ M * pw 1073 := Nat.mul_le_mul_left _ (pw_le (by omega))
        have hp := pw_pos 1073
        generalize pw 1073 = P at *
        have h6 : M * P ≤ 9007199254740991 * P := Nat.mul_le_mul_right _ (by omega)
        omega
      have := (Nat.div_lt_iff_lt_mul T1_pos).2 h3
      omega
    have hW := cutW_le way s (valR r) 1074
    rw [← T1_pow] at hW
    obtain ⟨W, hWe⟩ : ∃ W, cutW way s (valR r) 1074 = W := ⟨_, rfl⟩
    rw [hWe] at hW ⊢
    have hW2 : W < 9007199254740992 := by omega
    by_cases h0 : W = 0
    · subst h0
      rw [Nat.zero_mul]
      exact ⟨by decide, by decide⟩
    · have hl : W.log2 < 53 := (Nat.log2_lt h0).2 (by simpa using hW2)
      have hr := rung_rep W 1074 hW2 h0 (by omega)
      rw [← T1_pow] at hr
      exact hr
theorem whole_fin {b : Nat} (way : Toward) (h : FinB b) : FinB (wholeB way b) ∧ negB (wholeB way b) = negB b ∧ valR (magB (wholeB way b)) = wholeN way b * T1 := by
  have h1 := whole_rep way (negB b) (magB b) h.2
  rw [whole_write way h]
  refine ⟨word_fin h1.1, neg_word (by unfold wholeN; omega), ?_⟩
  rw [mag_word (by unfold wholeN; omega)]
  exact h1.2
/-- a number of units that is whole. -/
def IsWhole (b : Nat) : Prop := valR (magB b) % T1 = 0
instance (b : Nat) : Decidable (IsWhole b) := by unfold IsWhole; infer_instance
theorem whole_of (way : Toward) {b : Nat} (h : IsWhole b) : wholeN way b * T1 = valR (magB b) := by
  unfold IsWhole at h
  have e : valR (magB b) = valR (magB b) / T1 * T1 := by have := Nat.div_add_mod (valR (magB b)) T1; rw [Nat.mul_comm] at this; omega
  unfold wholeN
  generalize valR (magB b) = N at *
  have e2 : cutW way (negB b) (N / T1 * T1) 1074 = N / T1 := by
    have := cutW_exact way (negB b) (N / T1) 1074
    rw [← T1_pow] at this
    exact this
  rw [← e] at e2
  rw [e2]; exact e.symm
end Go.Proofs.YtelakcjbknbehaaGreat
namespace Go.Proofs.YtelakcjbknbehaaGreat
open Ieee

theorem valR_mono {r q : Nat} (h : r ≤ q) : valR r ≤ valR q := by
  unfold valR
  by_cases h1 : q < 4503599627370496
  · rw [if_pos h1, if_pos (by omega)]; exact h
  · rw [if_neg h1]
    by_cases h2 : r < 4503599627370496
    · rw [if_pos h2]
      have hp : 1 ≤ 2 ^ (q / 4503599627370496 - 1) := Nat.pow_pos (by decide)
      have := Nat.mul_le_mul_left (4503599627370496 + q % 4503599627370496) hp
      omega
    · rw [if_neg h2]
      by_cases h3 : r / 4503599627370496 = q / 4503599627370496
      · rw [h3]; exact Nat.mul_le_mul_right _ (by omega)
      · have h4 : r / 4503599627370496 < q / 4503599627370496 := by omega
        have e : (2 : Nat) ^ (q / 4503599627370496 - 1) = 2 ^ (r / 4503599627370496 - 1) * 2 ^ (q / 4503599627370496 - r / 4503599627370496) := by
          rw [← Nat.pow_add]; congr 1; omega
        have h5 : 2 ≤ 2 ^ (q / 4503599627370496 - r / 4503599627370496) := by
          have := Nat.pow_le_pow_right (n := 2) (by decide) (show 1 ≤ q / 4503599627370496 - r / 4503599627370496 by omega)
          simpa using this
        rw [e]
        have h6 : (4503599627370496 + r % 4503599627370496) * 2 ^ (r / 4503599627370496 - 1) ≤ (2 * 4503599627370496) * 2 ^ (r / 4503599627370496 - 1) := Nat.mul_le_mul_right _ (by omega)
        have h7 : 4503599627370496 * (2 ^ (r / 4503599627370496 - 1) * 2) ≤ (4503599627370496 + q % 4503599627370496) * (2 ^ (r / 4503599627370496 - 1) * 2 ^ (q / 4503599627370496 - r / 4503599627370496)) :=
          Nat.mul_le_mul (by omega) (Nat.mul_le_mul_left _ h5)
        have h8 : 2 * 4503599627370496 * 2 ^ (r / 4503599627370496 - 1) = 4503599627370496 * (2 ^ (r / 4503599627370496 - 1) * 2) := by
          generalize 2 ^ (r / 4503599627370496 - 1) = P; omega
        omega
theorem valR_pow (k : Nat) : valR ((k + 1) * 4503599627370496) = pw (52 + k) := by
  unfold valR
  rw [if_neg (by omega), show (k + 1) * 4503599627370496 % 4503599627370496 = 0 by omega, show (k + 1) * 4503599627370496 / 4503599627370496 - 1 = k by omega, Nat.add_zero, ← pw_eq k, ← pw_add', show (52 : Nat) + k = 52 + k from rfl]
theorem fin_num {b : Nat} (h : b < 9218868437227405312) : FinB b ∧ rv b = valR b ∧ FinB (9223372036854775808 + b) ∧ rv (9223372036854775808 + b) = -(valR b : Int) := by
  have w0 : double.word false b = b := by rw [word_eq]; rfl
  have w1 : double.word true b = 9223372036854775808 + b := by rw [word_eq]; rfl
  have f0 := word_fin (s := false) h
  have f1 := word_fin (s := true) h
  have r0 := word_rv (s := false) h
  have r1 := word_rv (s := true) h
  rw [w0] at f0 r0
  rw [w1] at f1 r1
  exact ⟨f0, r0, f1, r1⟩
/-! the difference -/
theorem sum_rv (s t : Bool) (m n : Nat) (i j : Int) (hi : -1074 ≤ i) (hj : -1074 ≤ j) :
    ∃ g, ((Datum.number s m i).sum (.number t n j)).map double.write = some (double.word g (rungOf (sgnI s (units m i) + sgnI t (units n j)).natAbs)) ∧
      (0 < sgnI s (units m i) + sgnI t (units n j) → g = false) ∧ (sgnI s (units m i) + sgnI t (units n j) < 0 → g = true) := by
  unfold Datum.sum
  simp only [Option.map_some]
  rw [write_num _ _ _ (by omega), signed_eq, signed_eq]
  have hk : (0 : Int) < ((2 ^ (min i j + 1074).toNat : Nat) : Int) := by
    have : 0 < 2 ^ (min i j + 1074).toNat := Nat.pow_pos (by decide)
    omega
  have e : (sgnI s (m * 2 ^ (i - min i j).toNat) + sgnI t (n * 2 ^ (j - min i j).toNat)) * ((2 ^ (min i j + 1074).toNat : Nat) : Int) = sgnI s (units m i) + sgnI t (units n j) := by
    rw [Int.add_mul, sgn_mul, sgn_mul, units_base _ _ _ (by omega) (by omega), units_base _ _ _ (by omega) (by omega)]
  have eu : units (sgnI s (m * 2 ^ (i - min i j).toNat) + sgnI t (n * 2 ^ (j - min i j).toNat)).natAbs (min i j) = (sgnI s (units m i) + sgnI t (units n j)).natAbs := by
    rw [← e, Int.natAbs_mul, Int.natAbs_natCast]
    rfl
  refine ⟨_, congrArg some (congrArg _ (congrArg rungOf eu)), ?_, ?_⟩
  · intro h
    rw [← e] at h
    have h2 := Int.pos_of_mul_pos_left h hk
    rw [if_neg (by omega)]; exact decide_eq_false (by omega)
  · intro h
    rw [← e] at h
    have h2 := Int.neg_of_mul_neg_left h hk
    rw [if_neg (by omega)]; exact decide_eq_true h2
theorem sub_rv {b c : Nat} (hb : FinB b) (hc : FinB c) : ∃ g, double.sub b c = some (double.word g (rungOf (rv b - rv c).natAbs)) ∧ (0 < rv b - rv c → g = false) ∧ (rv b - rv c < 0 → g = true) := by
  obtain ⟨m, i, e1, h1, h2, _⟩ := read_fin hb
  obtain ⟨n, j, e2, h3, h4, _⟩ := read_fin hc
  have := sum_rv (negB b) (!negB c) m n i j h1 h3
  have e : sgnI (negB b) (units m i) + sgnI (!negB c) (units n j) = rv b - rv c := by
    unfold rv; rw [h2, h4]; unfold sgnI; cases negB b <;> cases negB c <;> simp <;> omega
  rw [e] at this
  unfold Format.sub
  rw [e1, e2]
  exact this
theorem zero_fin : FinB 0 ∧ rv 0 = 0 := ⟨by unfold FinB; decide, by decide⟩
/-! ints -/
def intB (n : Int) : Nat := double.write (.number (decide (n < 0)) n.natAbs 0)
theorem int_rep {n : Nat} (h : n ≤ 9007199254740992) : rungOf (n * T1) < 9218868437227405312 ∧ valR (rungOf (n * T1)) = n * T1 := by
  by_cases h0 : n = 0
  · subst h0; rw [Nat.zero_mul]; exact ⟨by decide, by decide⟩
  · by_cases h1 : n = 9007199254740992
    · subst h1
      rw [← top_pow, ← valR_pow 1075, rungOf_valR _ (by decide)]
      exact ⟨by decide, rfl⟩
    · have h2 : n < 9007199254740992 := by omega
      have hl : n.log2 < 53 := (Nat.log2_lt h0).2 (by simpa using h2)
      have hr := rung_rep n 1074 h2 h0 (by omega)
      rw [← T1_pow] at hr
      exact hr
theorem int_rv {n : Int} (h : n.natAbs ≤ 9007199254740992) : FinB (intB n) ∧ rv (intB n) = n * (T1 : Int) ∧ negB (intB n) = decide (n < 0) ∧ valR (magB (intB n)) = n.natAbs * T1 := by
  have hr := int_rep h
  unfold intB
  rw [write_num _ _ _ (by omega), units_zero]
  refine ⟨word_fin hr.1, ?_, neg_word (by omega), by rw [mag_word (by omega)]; exact hr.2⟩
  rw [word_rv hr.1, hr.2, ← sgn_mul]
  congr 1
  unfold sgnI
  by_cases g : n < 0
  · rw [decide_eq_true g, if_pos rfl]; omega
  · rw [decide_eq_false g, if_neg (by decide)]; omega
/-- a number as an int. -/
def toI (b : Nat) : Int := sgnI (negB b) (wholeN .zero b)
theorem toInt_fin {b : Nat} (h : FinB b) : (double.read b).toInt .zero = some (toI b) := by
  obtain ⟨m, i, e1, h1, h2, _⟩ := read_fin h
  unfold Datum.toInt
  rw [e1, integral_units .zero _ _ _ h1, h2]
  simp only
  rw [signed_eq, Nat.pow_zero, Nat.mul_one]
  rfl
theorem toI_whole {b : Nat} (h : IsWhole b) : toI b * (T1 : Int) = rv b := by
  unfold toI rv
  rw [sgn_mul, whole_of .zero h]
theorem T1_posI : (0 : Int) < (T1 : Int) := by have := T1_pos; omega
/-! one divided by a number -/
end Go.Proofs.YtelakcjbknbehaaGreat
namespace Go.Proofs.YtelakcjbknbehaaGreat
open Ieee

theorem read_inf {b : Nat} (h : b < 18446744073709551616) (hm : magB b = 9218868437227405312) : double.read b = .infinity (negB b) := by
  have hw := word_self h
  rw [hm] at hw
  rw [← hw]
  cases negB b <;> decide +kernel
theorem nan_order {b : Nat} (h : isNaNB b = true) (c : Nat) : double.order b c = none := by
  have hn := read_nan (b := b)
  rw [h] at hn
  unfold Format.order
  generalize double.read b = d at *
  cases d with
  | nan s t => cases double.read c <;> rfl
  | number s m e => cases hn
  | infinity s => cases hn
theorem kinds {b : Nat} (h : b < 18446744073709551616) : isNaNB b = true ∨ (isNaNB b = false ∧ magB b = 9218868437227405312) ∨ (isNaNB b = false ∧ FinB b) := by
  unfold isNaNB FinB
  rcases Nat.lt_trichotomy (magB b) 9218868437227405312 with h1 | h1 | h1
  · exact Or.inr (Or.inr ⟨decide_eq_false (by omega), h, h1⟩)
  · exact Or.inr (Or.inl ⟨decide_eq_false (by omega), h1⟩)
  · exact Or.inl (decide_eq_true h1)
theorem fin_not_nan {b : Nat} (h : FinB b) : isNaNB b = false := decide_eq_false (by have := h.2; omega)
end Go.Proofs.YtelakcjbknbehaaGreat
namespace Go.Proofs.YtelakcjbknbehaaGreat
open Ieee

/-- a number turned in its sign. -/
def negF (b : Nat) : Nat := b ^^^ 2 ^ 63
theorem negF_pos {b : Nat} (h : b < 9223372036854775808) : negF b = 9223372036854775808 + b := by
  unfold negF
  apply Nat.eq_of_testBit_eq
  intro i
  rw [Nat.testBit_xor, Nat.testBit_two_pow, show 9223372036854775808 + b = 2 ^ 63 + b from rfl]
  rcases Nat.lt_trichotomy i 63 with h1 | h1 | h1
  · rw [Nat.testBit_two_pow_add_gt h1]
    have : ¬ 63 = i := by omega
    simp [this]
  · subst h1
    rw [Nat.testBit_two_pow_add_eq]
    simp
  · have e : 2 ^ 64 ≤ 2 ^ i := Nat.pow_le_pow_right (by decide) h1
    have e64 : (2 : Nat) ^ 64 = 18446744073709551616 := by decide
    have e63 : (2 : Nat) ^ 63 = 9223372036854775808 := by decide
    rw [Nat.testBit_lt_two_pow (x := b) (by omega), Nat.testBit_lt_two_pow (x := 2 ^ 63 + b) (by omega)]
    have : ¬ 63 = i := by omega
    simp [this]
theorem negF_neg {b : Nat} (h0 : 9223372036854775808 ≤ b) (h : b < 18446744073709551616) : negF b = b - 9223372036854775808 := by
  obtain ⟨c, rfl⟩ : ∃ c, b = 9223372036854775808 + c := ⟨b - 9223372036854775808, by omega⟩
  have hc : c < 9223372036854775808 := by omega
  rw [← negF_pos hc]
  unfold negF
  rw [Nat.xor_assoc, Nat.xor_self, Nat.xor_zero]
  have := negF_pos hc
  unfold negF at this
  rw [this]; omega
theorem signW : double.signWeight = 9223372036854775808 := by decide
theorem read_negF {b : Nat} (h : b < 18446744073709551616) : double.read (negF b) = (double.read b).opposite := by
  have e1 : negF b % 9223372036854775808 = b % 9223372036854775808 := by
    by_cases h0 : 9223372036854775808 ≤ b
    · rw [negF_neg h0 h]; omega
    · rw [negF_pos (by omega)]; omega
  have e2 : (negF b / 9223372036854775808 % 2 == 1) = !(b / 9223372036854775808 % 2 == 1) := by
    by_cases h0 : 9223372036854775808 ≤ b
    · rw [negF_neg h0 h, show (b - 9223372036854775808) / 9223372036854775808 % 2 = 0 by omega, show b / 9223372036854775808 % 2 = 1 by omega]; rfl
    · rw [negF_pos (by omega), show (9223372036854775808 + b) / 9223372036854775808 % 2 = 1 by omega, show b / 9223372036854775808 % 2 = 0 by omega]; rfl
  unfold Format.read
  rw [signW, e1, e2]
  simp only []
  split
  · rfl
  · split
    · rfl
    · split <;> rfl
/-- bits that are a whole number. -/
def WhB (b : Nat) (n : Int) : Prop := FinB b ∧ rv b = n * (T1 : Int)
theorem WhB.lt {b : Nat} {n : Int} (h : WhB b n) : b < 18446744073709551616 := h.1.1
theorem wh_int {n : Int} (h : n.natAbs ≤ 9007199254740992) : WhB (intB n) n := ⟨(int_rv h).1, (int_rv h).2.1⟩
theorem fin_negF {b : Nat} (h : FinB b) : FinB (negF b) ∧ rv (negF b) = - rv b := by
  have hb := h.1
  have hm := h.2
  unfold magB at hm
  by_cases h0 : 9223372036854775808 ≤ b
  · have e := negF_neg h0 hb
    have hlt : b - 9223372036854775808 < 9218868437227405312 := by omega
    obtain ⟨f1, f2, f3, f4⟩ := fin_num hlt
    rw [e]
    refine ⟨f1, ?_⟩
    have eb : 9223372036854775808 + (b - 9223372036854775808) = b := by omega
    rw [eb] at f4
    rw [f2, f4]
    omega
  · have e := negF_pos (b := b) (by omega)
    have hlt : b < 9218868437227405312 := by omega
    obtain ⟨f1, f2, f3, f4⟩ := fin_num hlt
    rw [e, f2, f4]
    exact ⟨f3, rfl⟩
theorem WhB.neg {b : Nat} {n : Int} (h : WhB b n) : WhB (negF b) (-n) := by
  obtain ⟨h1, h2⟩ := fin_negF h.1
  refine ⟨h1, ?_⟩
  rw [h2, h.2, Int.neg_mul]
theorem negF_negF {b : Nat} (h : b < 18446744073709551616) : negF (negF b) = b := by
  by_cases h0 : 9223372036854775808 ≤ b
  · rw [negF_neg h0 h, negF_pos (b := b - 9223372036854775808) (by omega)]; omega
  · rw [negF_pos (b := b) (by omega), negF_neg (b := 9223372036854775808 + b) (by omega) (by omega)]; omega
theorem WhB.toI {b : Nat} {n : Int} (h : WhB b n) : toI b = n := by
  have hw : IsWhole b := by
    have h2 := h.2
    unfold rv at h2
    unfold IsWhole
    have hd : (T1 : Int) ∣ (valR (magB b) : Int) := by
      unfold sgnI at h2
      split at h2
      · exact ⟨-n, by rw [Int.mul_comm, Int.neg_mul, ← h2]; omega⟩
      · exact ⟨n, by rw [Int.mul_comm, ← h2]⟩
    exact Nat.mod_eq_zero_of_dvd (Int.natCast_dvd_natCast.1 hd)
  have h3 := toI_whole hw
  rw [h.2] at h3
  have hT := T1_posI
  exact Int.eq_of_mul_eq_mul_right (by omega) h3
theorem WhB.toInt {b : Nat} {n : Int} (h : WhB b n) : (double.read b).toInt .zero = some n := by rw [toInt_fin h.1, h.toI]
end Go.Proofs.YtelakcjbknbehaaGreat
namespace Go.Proofs.YtelakcjbknbehaaGreat
open Ieee

/-- the rung nearest to n / 2 ^ d least units. -/
def rngD (n d : Nat) : Nat := if n = 0 then 0 else min ((n.log2 - (52 + d)) * 4503599627370496 + cutW .even false n (n.log2 - (52 + d) + d)) 9218868437227405312
theorem rngD_zero (n : Nat) : rngD n 0 = rungOf n := by
  unfold rngD rungOf
  simp only [Nat.add_zero]
theorem mul_pow_ne {m : Nat} (k : Nat) (h : m ≠ 0) : m * 2 ^ k ≠ 0 := by
  have hp : 0 < 2 ^ k := Nat.pow_pos (by decide)
  intro e
  rcases Nat.mul_eq_zero.1 e with e | e <;> omega
theorem rngD_shift (m d k : Nat) : rngD (m * 2 ^ k) (d + k) = rngD m d := by
  unfold rngD
  by_cases h : m = 0
  · rw [if_pos h, h, Nat.zero_mul, if_pos rfl]
  · rw [if_neg h, if_neg (mul_pow_ne k h), log2_mul m k h, show m.log2 + k - (52 + (d + k)) = m.log2 - (52 + d) by omega,
      show m.log2 - (52 + d) + (d + k) = m.log2 - (52 + d) + d + k by omega, cutW_shift]
theorem nearest_low (s : Bool) (m d : Nat) : double.nearest s m (-1074 - (d : Int)) = double.word s (rngD m d) := by
  unfold Format.nearest rngD
  by_cases h : m = 0
  · rw [if_pos h, if_pos h]
  · rw [if_neg h, if_neg h]
    have e1 : double.fractionBits = 52 := rfl
    have e2 : double.leastPlace = -1074 := by decide
    have e3 : double.binade = 4503599627370496 := by decide
    have e4 : double.infRung = 9218868437227405312 := by decide
    simp only [e1, e2, e3, e4]
    have e5 : (-1074 - (d : Int) - max (-1074 - (d : Int) + (m.log2 : Int) - ((52 : Nat) : Int)) (-1074)).toNat = 0 := by omega
    have e6 : (max (-1074 - (d : Int) + (m.log2 : Int) - ((52 : Nat) : Int)) (-1074) - (-1074 - (d : Int))).toNat = m.log2 - (52 + d) + d := by omega
    have e7 : (max (-1074 - (d : Int) + (m.log2 : Int) - ((52 : Nat) : Int)) (-1074) - -1074).toNat = m.log2 - (52 + d) := by omega
    rw [e5, e6, e7, Nat.shiftLeft_zero, cut_eq, cutW_even]
theorem nearest_rngD (s : Bool) (m : Nat) (i : Int) (d : Nat) (h : -1074 - (d : Int) ≤ i) : double.nearest s m i = double.word s (rngD (m * 2 ^ (i + 1074 + d).toNat) d) := by
  by_cases h0 : -1074 ≤ i
  · rw [nearest_units s m i h0]
    have := rngD_shift (units m i) 0 d
    rw [rngD_zero, Nat.zero_add] at this
    rw [← this]
    unfold units
    rw [Nat.mul_assoc, ← Nat.pow_add, show (i + 1074).toNat + d = (i + 1074 + d).toNat by omega]
  · obtain ⟨e, rfl⟩ : ∃ e : Nat, i = -1074 - (e : Int) := ⟨(-1074 - i).toNat, by omega⟩
    rw [nearest_low]
    obtain ⟨k, rfl⟩ : ∃ k, d = e + k := ⟨d - e, by omega⟩
    rw [show (-1074 - (e : Int) + 1074 + ((e + k : Nat) : Int)).toNat = k by omega, rngD_shift]
theorem cutW_mono {n m : Nat} (d : Nat) (h : n ≤ m) : cutW .even false n d ≤ cutW .even false m d := by
  have hp : 0 < 2 ^ d := Nat.pow_pos (by decide)
  unfold cutW
  simp only []
  generalize hP : 2 ^ d = p at *
  have hq : n / p ≤ m / p := Nat.div_le_div_right h
  have h1 := Nat.div_add_mod n p
  have h2 := Nat.div_add_mod m p
  have l1 := Nat.mod_lt n hp
  have l2 := Nat.mod_lt m hp
  by_cases e : n / p = m / p
  · rw [e] at h1 ⊢
    have hr : n % p ≤ m % p := by omega
    generalize n % p = r at *
    generalize m % p = t at *
    generalize m / p = q at *
    apply Nat.add_le_add_left
    by_cases c1 : p < 2 * t
    · have : (decide (p < 2 * t) || (p == 2 * t && q % 2 == 1)) = true := by rw [decide_eq_true c1]; rfl
      rw [this]
      exact Bool.toNat_le _
    · have c2 : ¬ p < 2 * r := by omega
      rw [decide_eq_false c1, decide_eq_false c2]
      by_cases c3 : p = 2 * r
      · have : r = t := by omega
        subst this; exact Nat.le_refl _
      · have : (p == 2 * r) = false := by rw [beq_eq_false_iff_ne]; exact c3
        rw [this]
        exact Nat.zero_le _
  · have : n / p + 1 ≤ m / p := by omega
    have b1 := Bool.toNat_le (decide (p < 2 * (n % p)) || (p == 2 * (n % p) && n / p % 2 == 1))
    omega
theorem cutW_top {n d : Nat} (h : n.log2 ≤ 52 + d) : cutW .even false n d ≤ 9007199254740992 := by
  have h1 := cutW_le .even false n d
  have h2 : n < 2 ^ (n.log2 + 1) := Nat.lt_log2_self
  have h3 : 2 ^ (n.log2 + 1) ≤ 2 ^ (53 + d) := Nat.pow_le_pow_right (by decide) (by omega)
  have h4 : n / 2 ^ d < 9007199254740992 := by
    rw [Nat.div_lt_iff_lt_mul (Nat.pow_pos (by decide))]
    have : (9007199254740992 : Nat) = 2 ^ 53 := by decide
    rw [this, ← Nat.pow_add]
    omega
  omega
theorem cutW_low {n d : Nat} (h0 : n ≠ 0) (h : 52 + d ≤ n.log2) : 4503599627370496 ≤ cutW .even false n d := by
  have h1 : 2 ^ n.log2 ≤ n := Nat.log2_self_le h0
  have h2 : 2 ^ (52 + d) ≤ 2 ^ n.log2 := Nat.pow_le_pow_right (by decide) h
  have h3 : 4503599627370496 ≤ n / 2 ^ d := by
    rw [Nat.le_div_iff_mul_le (Nat.pow_pos (by decide))]
    have : (4503599627370496 : Nat) = 2 ^ 52 := by decide
    rw [this, ← Nat.pow_add]
    omega
  unfold cutW
  omega
/-- ROUNDING IS MONOTONE. -/
theorem rngD_mono {n m : Nat} (d : Nat) (h : n ≤ m) : rngD n d ≤ rngD m d := by
  unfold rngD
  by_cases hn : n = 0
  · rw [if_pos hn]; exact Nat.zero_le _
  · have hm : m ≠ 0 := by omega
    rw [if_neg hn, if_neg hm]
    have hl : n.log2 ≤ m.log2 := by
      have := Nat.log2_self_le hn
      rw [Nat.le_log2 hm]
      omega
    have key : (n.log2 - (52 + d)) * 4503599627370496 + cutW .even false n (n.log2 - (52 + d) + d) ≤ (m.log2 - (52 + d)) * 4503599627370496 + cutW .even false m (m.log2 - (52 + d) + d) := by
      by_cases e : n.log2 - (52 + d) = m.log2 - (52 + d)
      · rw [e]
        exact Nat.add_le_add_left (cutW_mono _ h) _
      · have t1 := cutW_top (n := n) (d := n.log2 - (52 + d) + d) (by omega)
        have t2 := cutW_low (n := m) (d := m.log2 - (52 + d) + d) hm (by omega)
        have t3 : (n.log2 - (52 + d) + 1) * 4503599627370496 ≤ (m.log2 - (52 + d)) * 4503599627370496 := Nat.mul_le_mul_right _ (by omega)
        omega
    omega
theorem rungOf_mono {n m : Nat} (h : n ≤ m) : rungOf n ≤ rungOf m := by
  have := rngD_mono 0 h
  rw [rngD_zero, rngD_zero] at this
  exact this
theorem rngD_exact (n d : Nat) : rngD (n * 2 ^ d) d = rungOf n := by
  have := rngD_shift n 0 d
  rw [Nat.zero_add, rngD_zero] at this
  exact this
theorem rngD_le {n d K : Nat} (h : n ≤ K * 2 ^ d) : rngD n d ≤ rungOf K := by
  rw [← rngD_exact K d]; exact rngD_mono d h
end Go.Proofs.YtelakcjbknbehaaGreat
namespace Go.Proofs.YtelakcjbknbehaaGreat
open Ieee

theorem add_neg (b : Nat) {x : Nat} (h : x < 18446744073709551616) : double.add b (negF x) = double.sub b x := by
  unfold Format.add Format.sub
  rw [read_negF h]
theorem rv_neg {b : Nat} (h : negB b = true) : rv b = -(valR (magB b) : Int) := by unfold rv sgnI; rw [h, if_pos rfl]
theorem rv_pos {b : Nat} (h : negB b = false) : rv b = (valR (magB b) : Int) := by unfold rv sgnI; rw [h, if_neg (by decide)]
theorem valR_0 : valR 0 = 0 := by decide
theorem rung_mag {b : Nat} (h : FinB b) : rungOf (valR (magB b)) = magB b := rungOf_valR _ h.2
/-- a number that is rounded stays between two doubles between which it lies. -/
theorem fl_between {g : Bool} {X : Int} (hp : 0 < X → g = false) (hn : X < 0 → g = true) {lo hi : Nat} (hl : FinB lo) (hh : FinB hi) (h1 : rv lo ≤ X) (h2 : X ≤ rv hi) :
    FinB (double.word g (rungOf X.natAbs)) ∧ rv lo ≤ rv (double.word g (rungOf X.natAbs)) ∧ rv (double.word g (rungOf X.natAbs)) ≤ rv hi := by
  have kh : 0 < X → rungOf X.natAbs ≤ magB hi := fun h0 => by
    rw [← rung_mag hh]
    refine rungOf_mono ?_
    cases e : negB hi
    · rw [rv_pos e] at h2; omega
    · rw [rv_neg e] at h2; omega
  have kl : X < 0 → rungOf X.natAbs ≤ magB lo := fun h0 => by
    rw [← rung_mag hl]
    refine rungOf_mono ?_
    cases e : negB lo
    · rw [rv_pos e] at h1; omega
    · rw [rv_neg e] at h1; omega
  have jl : 0 < rv lo → magB lo ≤ rungOf X.natAbs := fun h0 => by
    rw [← rung_mag hl]
    refine rungOf_mono ?_
    cases e : negB lo
    · rw [rv_pos e] at h1 h0; omega
    · rw [rv_neg e] at h0; omega
  have jh : rv hi < 0 → magB hi ≤ rungOf X.natAbs := fun h0 => by
    rw [← rung_mag hh]
    refine rungOf_mono ?_
    cases e : negB hi
    · rw [rv_pos e] at h0; omega
    · rw [rv_neg e] at h2 h0; omega
  have th := hh.2
  have tl := hl.2
  have hf : rungOf X.natAbs < 9218868437227405312 := by
    rcases Int.lt_trichotomy X 0 with h | h | h
    · have := kl h; omega
    · rw [h]; decide
    · have := kh h; omega
  rw [word_rv hf]
  refine ⟨word_fin hf, ?_⟩
  rcases Int.lt_trichotomy X 0 with h | h | h
  · rw [hn h]
    unfold sgnI
    rw [if_pos rfl]
    have a := valR_mono (kl h)
    constructor
    · cases e : negB lo
      · rw [rv_pos e] at h1; omega
      · rw [rv_neg e]; omega
    · by_cases c : rv hi < 0
      · have b := valR_mono (jh c)
        cases e : negB hi
        · rw [rv_pos e] at c; omega
        · rw [rv_neg e]; omega
      · omega
  · have : sgnI g (valR (rungOf X.natAbs)) = 0 := by
      rw [h, show rungOf (0 : Int).natAbs = 0 by decide, valR_0]
      cases g <;> rfl
    rw [this]
    omega
  · rw [hp h]
    unfold sgnI
    rw [if_neg (by decide)]
    have a := valR_mono (kh h)
    constructor
    · by_cases c : 0 < rv lo
      · have b := valR_mono (jl c)
        cases e : negB lo
        · rw [rv_pos e]; omega
        · rw [rv_neg e] at c; omega
      · omega
    · cases e : negB hi
      · rw [rv_pos e]; omega
      · rw [rv_neg e] at h2; omega
theorem add_rv {b c : Nat} (hb : FinB b) (hc : FinB c) : ∃ g, double.add b c = some (double.word g (rungOf (rv b + rv c).natAbs)) ∧ (0 < rv b + rv c → g = false) ∧ (rv b + rv c < 0 → g = true) := by
  obtain ⟨f1, f2⟩ := fin_negF hc
  have h := sub_rv hb f1
  rw [f2, Int.sub_neg, ← add_neg b f1.1, negF_negF hc.1] at h
  exact h
theorem add_between {b c lo hi : Nat} (hb : FinB b) (hc : FinB c) (hl : FinB lo) (hh : FinB hi) (h1 : rv lo ≤ rv b + rv c) (h2 : rv b + rv c ≤ rv hi) :
    ∃ z, double.add b c = some z ∧ FinB z ∧ rv lo ≤ rv z ∧ rv z ≤ rv hi := by
  obtain ⟨g, e, hp, hn⟩ := add_rv hb hc
  exact ⟨_, e, fl_between hp hn hl hh h1 h2⟩
theorem sub_between {b c lo hi : Nat} (hb : FinB b) (hc : FinB c) (hl : FinB lo) (hh : FinB hi) (h1 : rv lo ≤ rv b - rv c) (h2 : rv b - rv c ≤ rv hi) :
    ∃ z, double.sub b c = some z ∧ FinB z ∧ rv lo ≤ rv z ∧ rv z ≤ rv hi := by
  obtain ⟨g, e, hp, hn⟩ := sub_rv hb hc
  exact ⟨_, e, fl_between hp hn hl hh h1 h2⟩
/-! whole numbers -/
theorem wh_word {g : Bool} {X : Int} (hp : 0 < X → g = false) (hn : X < 0 → g = true) (h : X.natAbs ≤ 9007199254740992) : WhB (double.word g (rungOf (X * (T1 : Int)).natAbs)) X := by
  obtain ⟨i1, i2, -⟩ := int_rv h
  have hT := T1_posI
  have p1 : 0 < X * (T1 : Int) → g = false := fun h0 => hp (Int.pos_of_mul_pos_left h0 hT)
  have p2 : X * (T1 : Int) < 0 → g = true := fun h0 => hn (Int.neg_of_mul_neg_left h0 hT)
  obtain ⟨f, a, b⟩ := fl_between p1 p2 i1 i1 (by omega) (by omega)
  exact ⟨f, by omega⟩
theorem wh_add {a x : Nat} {m k : Int} (ha : WhB a m) (hx : WhB x k) (h : (m + k).natAbs ≤ 9007199254740992) : ∃ z, double.add a x = some z ∧ WhB z (m + k) := by
  obtain ⟨g, e, hp, hn⟩ := add_rv ha.1 hx.1
  have hT := T1_posI
  have ev : rv a + rv x = (m + k) * (T1 : Int) := by rw [ha.2, hx.2, Int.add_mul]
  rw [ev] at e hp hn
  refine ⟨_, e, wh_word (fun h0 => hp (Int.mul_pos h0 hT)) (fun h0 => hn (Int.mul_neg_of_neg_of_pos h0 hT)) h⟩
theorem wh_sub {a x : Nat} {m k : Int} (ha : WhB a m) (hx : WhB x k) (h : (m - k).natAbs ≤ 9007199254740992) : ∃ z, double.sub a x = some z ∧ WhB z (m - k) := by
  obtain ⟨z, e, hz⟩ := wh_add ha hx.neg (by rw [← Int.sub_eq_add_neg]; exact h)
  rw [add_neg _ hx.lt] at e
  rw [← Int.sub_eq_add_neg] at hz
  exact ⟨z, e, hz⟩
/-! products -/
theorem mul_rv {b c : Nat} (hb : FinB b) (hc : FinB c) : double.mul b c = some (double.word (negB b ^^ negB c) (rngD (valR (magB b) * valR (magB c)) 1074)) := by
  obtain ⟨m, i, e1, h1, h2, _⟩ := read_fin hb
  obtain ⟨n, j, e2, h3, h4, _⟩ := read_fin hc
  unfold Format.mul
  rw [e1, e2]
  show some (double.nearest (negB b ^^ negB c) (m * n) (i + j)) = _
  rw [nearest_rngD _ _ _ 1074 (by omega), ← h2, ← h4]
  unfold units
  rw [show (i + j + 1074 + ((1074 : Nat) : Int)).toNat = (i + 1074).toNat + (j + 1074).toNat by omega, Nat.pow_add, Nat.mul_mul_mul_comm]
theorem rngD_le0 {n K d T : Nat} (e : T = 2 ^ d) (h : n ≤ K * T) : rngD n d ≤ rungOf K := by
  subst e
  exact rngD_le h
theorem rngD_le1 {n K : Nat} (h : n ≤ K * T1) : rngD n 1074 ≤ rungOf K := rngD_le0 T1_pow h
/-- a part of a number is not greater than it. -/
theorem mul_part {b c : Nat} (hb : FinB b) (hc : FinB c) (h0 : 0 ≤ rv b) (h1 : rv b ≤ (T1 : Int)) (h2 : 0 ≤ rv c) : ∃ z, double.mul b c = some z ∧ FinB z ∧ 0 ≤ rv z ∧ rv z ≤ rv c := by
  have vb : (valR (magB b) : Int) = rv b := by
    cases e : negB b
    · rw [rv_pos e]
    · rw [rv_neg e] at h0 ⊢; omega
  have vc : (valR (magB c) : Int) = rv c := by
    cases e : negB c
    · rw [rv_pos e]
    · rw [rv_neg e] at h2 ⊢; omega
  have hr : rngD (valR (magB b) * valR (magB c)) 1074 ≤ magB c := by
    have hx : valR (magB b) * valR (magB c) ≤ valR (magB c) * T1 := by
      rw [Nat.mul_comm]
      exact Nat.mul_le_mul_left _ (by omega)
    have := rngD_le1 hx
    rw [rung_mag hc] at this
    exact this
  have hf : rngD (valR (magB b) * valR (magB c)) 1074 < 9218868437227405312 := by have := hc.2; omega
  have hv := valR_mono hr
  refine ⟨_, mul_rv hb hc, word_fin hf, ?_⟩
  rw [word_rv hf]
  cases eg : (negB b ^^ negB c)
  · unfold sgnI
    rw [if_neg (by decide)]
    omega
  · have hz : valR (magB b) * valR (magB c) = 0 := by
      cases eb : negB b
      · have ec : negB c = true := by rw [eb] at eg; cases h : negB c <;> simp [h] at eg ⊢
        rw [rv_neg ec] at vc
        have : valR (magB c) = 0 := by omega
        rw [this, Nat.mul_zero]
      · rw [rv_neg eb] at vb
        have : valR (magB b) = 0 := by omega
        rw [this, Nat.zero_mul]
    rw [hz] at hv ⊢
    rw [show rngD 0 1074 = 0 by unfold rngD; rw [if_pos rfl], valR_0]
    unfold sgnI
    rw [if_pos rfl]
    omega
end Go.Proofs.YtelakcjbknbehaaGreat
namespace Go.Proofs.YtelakcjbknbehaaGreat
open Ieee

theorem pw_mul (t k : Nat) : pw t * pw k = pw (t + k) := by rw [pw_eq, pw_eq, pw_eq, Nat.pow_add]
theorem WhB.val {b : Nat} {n : Int} (h : WhB b n) : valR (magB b) = n.natAbs * T1 := by
  have e : (rv b).natAbs = n.natAbs * T1 := by rw [h.2, Int.natAbs_mul, Int.natAbs_natCast]
  rw [← e]
  cases c : negB b
  · rw [rv_pos c, Int.natAbs_natCast]
  · rw [rv_neg c, Int.natAbs_neg, Int.natAbs_natCast]
theorem WhB.sgnP {b : Nat} {n : Int} (h : WhB b n) (h0 : 0 < n) : negB b = false := by
  cases c : negB b
  · rfl
  · have := rv_neg c
    rw [h.2] at this
    have := Int.mul_pos h0 T1_posI
    omega
theorem WhB.sgnN {b : Nat} {n : Int} (h : WhB b n) (h0 : n < 0) : negB b = true := by
  cases c : negB b
  · have := rv_pos c
    rw [h.2] at this
    have := Int.mul_neg_of_neg_of_pos h0 T1_posI
    omega
  · rfl
theorem WhB.mag {b : Nat} {n : Int} (h : WhB b n) : rungOf (n.natAbs * T1) = magB b := by rw [← h.val]; exact rung_mag h.1
/-- what a whole number but 0 is read as. -/
theorem WhB.read {b : Nat} {n : Int} (h : WhB b n) (h0 : n ≠ 0) (hs : n.natAbs < 1099511627776) :
    ∃ a : Nat, 12 ≤ a ∧ a ≤ 52 ∧ double.read b = .number (negB b) (n.natAbs * 2 ^ a) (-(a : Int)) ∧ (n.natAbs * 2 ^ a).log2 = 52 := by
  obtain ⟨m, i, e1, h1, h2, h3, h4⟩ := read_fin h.1
  rw [h.val] at h2
  have hN : 1 ≤ n.natAbs := by omega
  generalize n.natAbs = N at *
  rw [units_pw] at h2
  have hT := T1_pos
  have hT1 : T1 = pw 1074 := rfl
  have hNT : T1 ≤ N * T1 := Nat.le_mul_of_pos_left _ hN
  have hm : 4503599627370496 ≤ m := by
    rcases Nat.lt_or_ge m 4503599627370496 with hc | hc
    · have hi := h3 hc
      subst hi
      have e0 : pw ((-1074 : Int) + 1074).toNat = 1 := by decide
      rw [e0, Nat.mul_one] at h2
      have h5 := pw_le (show 52 ≤ 1074 by decide)
      have h6 : pw 52 = 4503599627370496 := by decide
      omega
    · exact hc
  obtain ⟨e, he⟩ : ∃ e : Nat, i = (e : Int) - 1074 := ⟨(i + 1074).toNat, by omega⟩
  subst he
  rw [show ((e : Int) - 1074 + 1074).toNat = e by omega] at h2
  have hp := pw_pos e
  have up : e ≤ 1062 := by
    apply Nat.le_of_not_lt
    intro hc
    have h5 := pw_le (show 1063 ≤ e from hc)
    have h6 : pw 52 * pw 1063 ≤ m * pw e := Nat.mul_le_mul (by rw [show pw 52 = 4503599627370496 by decide]; exact hm) h5
    rw [pw_mul, show 52 + 1063 = 41 + 1074 by decide, ← pw_mul, h2] at h6
    have h7 : pw 41 * pw 1074 ≤ N * pw 1074 := h6
    have h8 := Nat.le_of_mul_le_mul_right h7 hT
    have h9 : pw 41 = 2199023255552 := by decide
    omega
  have dn : 1022 ≤ e := by
    apply Nat.le_of_not_lt
    intro hc
    have h5 := pw_le (show e ≤ 1021 by omega)
    have h6 : m * pw e < pw 53 * pw 1021 := by
      have a1 : m < pw 53 := by rw [show pw 53 = 9007199254740992 by decide]; exact h4
      calc m * pw e < pw 53 * pw e := Nat.mul_lt_mul_of_pos_right a1 hp
        _ ≤ pw 53 * pw 1021 := Nat.mul_le_mul_left _ h5
    rw [pw_mul, h2] at h6
    have h7 : N * T1 < T1 := h6
    omega
  obtain ⟨a, ha⟩ : ∃ a : Nat, a + e = 1074 := ⟨1074 - e, by omega⟩
  have hma : m = N * 2 ^ a := by
    have : m * pw e = N * pw a * pw e := by rw [Nat.mul_assoc, pw_mul, ha]; exact h2
    exact Nat.eq_of_mul_eq_mul_right hp this
  refine ⟨a, by omega, by omega, ?_, ?_⟩
  · rw [e1, hma, show (e : Int) - 1074 = -(a : Int) by omega]
  · rw [← hma, Nat.log2_eq_iff (by omega)]
    exact ⟨hm, h4⟩
theorem stick_le {X n R : Nat} (h : X ≤ R * n) : 2 * (X / n) + (X % n != 0).toNat ≤ 2 * R := by
  have h1 : X / n ≤ R := Nat.div_le_of_le_mul (by rw [Nat.mul_comm]; exact h)
  have hb := Bool.toNat_le (X % n != 0)
  by_cases e : X / n = R
  · have h2 := Nat.div_add_mod X n
    rw [e, Nat.mul_comm] at h2
    have : X % n = 0 := by omega
    rw [this, e]
    exact Nat.le_refl _
  · omega
theorem stick_ge {X n R : Nat} (hn : 0 < n) (h : R * n ≤ X) : 2 * R ≤ 2 * (X / n) + (X % n != 0).toNat := by
  have h1 : R ≤ X / n := (Nat.le_div_iff_mul_le hn).2 h
  omega
/-- the quotient of two whole numbers lies between all whole numbers between which it lies. -/
theorem div_wh {b c lo hi : Nat} {S A B : Int} {K : Nat} (hb : WhB b S) (hc : WhB c K) (hl : WhB lo A) (hh : WhB hi B) (hS : S.natAbs < 1099511627776) (hK : 0 < K) (hK2 : K < 1099511627776) (h1 : A * K ≤ S) (h2 : S ≤ B * K) :
    ∃ z, double.div b c = some z ∧ FinB z ∧ rv lo ≤ rv z ∧ rv z ≤ rv hi := by
  have hT := T1_posI
  have hKI : (0 : Int) < (K : Int) := by omega
  obtain ⟨cc, c1, c2, ec, lc⟩ := hc.read (by omega) (by rw [Int.natAbs_natCast]; exact hK2)
  rw [Int.natAbs_natCast] at ec lc
  have nc := hc.sgnP hKI
  have hn0 : K * 2 ^ cc ≠ 0 := mul_pow_ne cc (by omega)
  have f1 : double.fractionBits = 52 := rfl
  by_cases h0 : S = 0
  · subst h0
    have hm := hb.val
    rw [Int.natAbs_zero, Nat.zero_mul] at hm
    obtain ⟨m, i, e1, -, g2, -⟩ := read_fin hb.1
    rw [hm] at g2
    have hm0 : m = 0 := by
      unfold units at g2
      have hp : 0 < 2 ^ (i + 1074).toNat := Nat.pow_pos (by decide)
      rcases Nat.mul_eq_zero.1 g2 with e | e <;> omega
    subst hm0
    refine ⟨double.word (negB b ^^ negB c) 0, ?_, word_fin (by decide), ?_, ?_⟩
    · unfold Format.div
      rw [e1, ec]
      unfold Datum.quotient
      simp only [if_neg hn0, Option.map_some, Nat.zero_shiftLeft, Nat.zero_div, Nat.zero_mod]
      rfl
    · rw [word_rv (by decide), hl.2, valR_0]
      have : A ≤ 0 := by
        rcases Int.lt_or_le 0 A with h | h
        · have := Int.mul_pos h hKI; omega
        · exact h
      have := Int.mul_nonpos_of_nonpos_of_nonneg this (Int.le_of_lt hT)
      have e : sgnI (negB b ^^ negB c) 0 = 0 := by cases (negB b ^^ negB c) <;> rfl
      omega
    · rw [word_rv (by decide), hh.2, valR_0]
      have : 0 ≤ B := by
        rcases Int.lt_or_le B 0 with h | h
        · have := Int.mul_neg_of_neg_of_pos h hKI; omega
        · exact h
      have := Int.mul_nonneg this (Int.le_of_lt hT)
      have e : sgnI (negB b ^^ negB c) 0 = 0 := by cases (negB b ^^ negB c) <;> rfl
      omega
  · obtain ⟨a, a1, a2, ea, la⟩ := hb.read h0 hS
    have hdiv : double.div b c = some (double.word (negB b) (rungOf (units (2 * (S.natAbs * 2 ^ a * 2 ^ 54 / (K * 2 ^ cc)) + (S.natAbs * 2 ^ a * 2 ^ 54 % (K * 2 ^ cc) != 0).toNat) (-(a : Int) - -(cc : Int) - 54 - 1)))) := by
      unfold Format.div
      rw [ea, ec]
      unfold Datum.quotient
      simp only [if_neg hn0, Option.map_some, f1, la, lc, nc, Bool.xor_false, Nat.shiftLeft_eq]
      show some (double.write _) = _
      rw [write_num _ _ _ (by omega)]
      rfl
    rw [hdiv]
    generalize hQ : 2 * (S.natAbs * 2 ^ a * 2 ^ 54 / (K * 2 ^ cc)) + (S.natAbs * 2 ^ a * 2 ^ 54 % (K * 2 ^ cc) != 0).toNat = Q
    obtain ⟨e3, he3⟩ : ∃ e3 : Nat, e3 + (a + 55) = cc + 1074 := ⟨cc + 1074 - (a + 55), by omega⟩
    obtain ⟨e4, he4⟩ : ∃ e4 : Nat, e4 + cc = a + 54 := ⟨a + 54 - cc, by omega⟩
    have hu : units Q (-(a : Int) - -(cc : Int) - 54 - 1) = Q * pw e3 := by
      rw [units_pw, show (-(a : Int) - -(cc : Int) - 54 - 1 + 1074).toNat = e3 by omega]
    rw [hu]
    have hpe := pw_pos e3
    have e2R : ∀ R : Nat, 2 * (R * pw e4) * pw e3 = R * T1 := fun R => by
      have : 2 * (R * pw e4) * pw e3 = R * (pw 1 * pw e4 * pw e3) := by
        rw [show pw 1 = 2 by decide, ← Nat.mul_assoc, ← Nat.mul_assoc, ← Nat.mul_assoc, Nat.mul_comm 2 R]
      rw [this, pw_mul, pw_mul, show 1 + e4 + e3 = 1074 by omega]
      rfl
    have eRn : ∀ R : Nat, R * pw e4 * (K * 2 ^ cc) = R * K * 2 ^ a * 2 ^ 54 := fun R => by
      rw [Nat.mul_mul_mul_comm, pw_eq, ← Nat.pow_add, he4, Nat.pow_add, ← Nat.mul_assoc]
    have le : ∀ R : Nat, S.natAbs ≤ R * K → rungOf (Q * pw e3) ≤ rungOf (R * T1) := fun R hR => by
      refine rungOf_mono ?_
      rw [← e2R R, ← hQ]
      refine Nat.mul_le_mul_right _ (stick_le ?_)
      rw [eRn]
      exact Nat.mul_le_mul_right _ (Nat.mul_le_mul_right _ hR)
    have ge : ∀ R : Nat, R * K ≤ S.natAbs → rungOf (R * T1) ≤ rungOf (Q * pw e3) := fun R hR => by
      refine rungOf_mono ?_
      rw [← e2R R, ← hQ]
      refine Nat.mul_le_mul_right _ (stick_ge (by omega) ?_)
      rw [eRn]
      exact Nat.mul_le_mul_right _ (Nat.mul_le_mul_right _ hR)
    have tl := hl.1.2
    have th := hh.1.2
    rcases Int.lt_trichotomy S 0 with hs | hs | hs
    · rw [hb.sgnN hs]
      have hA : A < 0 := by
        rcases Int.lt_or_le A 0 with h | h
        · exact h
        · have := Int.mul_nonneg h (Int.le_of_lt hKI); omega
      have k1 := le A.natAbs (by
        have : ((A.natAbs * K : Nat) : Int) = -(A * K) := by rw [Int.natCast_mul, show (A.natAbs : Int) = -A by omega, Int.neg_mul]
        omega)
      rw [hl.mag] at k1
      have hf : rungOf (Q * pw e3) < 9218868437227405312 := by omega
      refine ⟨_, rfl, word_fin hf, ?_, ?_⟩
      · rw [word_rv hf, rv_neg (hl.sgnN hA)]
        have := valR_mono k1
        unfold sgnI
        rw [if_pos rfl]
        omega
      · rw [word_rv hf]
        unfold sgnI
        rw [if_pos rfl]
        rcases Int.lt_or_le B 0 with hB | hB
        · have k2 := ge B.natAbs (by
            have : ((B.natAbs * K : Nat) : Int) = -(B * K) := by rw [Int.natCast_mul, show (B.natAbs : Int) = -B by omega, Int.neg_mul]
            omega)
          rw [hh.mag] at k2
          rw [rv_neg (hh.sgnN hB)]
          have := valR_mono k2
          omega
        · rw [hh.2]
          have := Int.mul_nonneg hB (Int.le_of_lt hT)
          omega
    · exact absurd hs h0
    · rw [hb.sgnP hs]
      have hB : 0 < B := by
        rcases Int.lt_or_le 0 B with h | h
        · exact h
        · have := Int.mul_nonpos_of_nonpos_of_nonneg h (Int.le_of_lt hKI); omega
      have k1 := le B.natAbs (by
        have : ((B.natAbs * K : Nat) : Int) = B * K := by rw [Int.natCast_mul, show (B.natAbs : Int) = B by omega]
        omega)
      rw [hh.mag] at k1
      have hf : rungOf (Q * pw e3) < 9218868437227405312 := by omega
      refine ⟨_, rfl, word_fin hf, ?_, ?_⟩
      · rw [word_rv hf]
        unfold sgnI
        rw [if_neg (by decide)]
        rcases Int.lt_or_le 0 A with hA | hA
        · have k2 := ge A.natAbs (by
            have : ((A.natAbs * K : Nat) : Int) = A * K := by rw [Int.natCast_mul, show (A.natAbs : Int) = A by omega]
            omega)
          rw [hl.mag] at k2
          rw [rv_pos (hl.sgnP hA)]
          have := valR_mono k2
          omega
        · rw [hl.2]
          have := Int.mul_nonpos_of_nonpos_of_nonneg hA (Int.le_of_lt hT)
          omega
      · rw [word_rv hf, rv_pos (hh.sgnP hB)]
        have := valR_mono k1
        unfold sgnI
        rw [if_neg (by decide)]
        omega
end Go.Proofs.YtelakcjbknbehaaGreat
namespace Go.Proofs.YtelakcjbknbehaaGreat
open Go.RowKit Go.Lib Ieee

/-- an operation on floats, any NaN as the one. -/
def opC (op : BinOp) (a b : Nat) : Nat := match floatBits op .f64 a b with | some d => canB d | none => nanB
theorem opC_some {op : BinOp} {a b d : Nat} (h : floatBits op .f64 a b = some d) : opC op a b = canB d := by unfold opC; rw [h]
theorem run_flop {op : BinOp} (hop : op = .add ∨ op = .sub ∨ op = .mul ∨ op = .quo) (t : TypeId) (a b : Nat) (w : World) :
    ∃ c w', (binOp op t (.float .f64 a) (.float .f64 b)).run Tryz.prog w = .ok (.float .f64 c) w' ∧ canB c = opC op a b ∧ c < 18446744073709551616 ∧ Chg [] w w' := by
  cases h : floatBits op .f64 a b with
  | some d =>
    have hlt := floatBits_wf h
    exact ⟨d, w, run_float_arith w op t .f64 a b d h, (opC_some h).symm, by simpa [Lit.wf] using hlt, Chg.refl _ _⟩
  | none =>
    refine ⟨(Question.nanBits .f64 a b).cut (w.tape w.drawn (.nanBits .f64 a b)), w.drew, ?_, ?_, ?_, (Chg.refl _ _).drew⟩
    · rcases hop with rfl | rfl | rfl | rfl <;> (unfold floatBits at h; simp only at h; simp [binOp, Op.floatArith, h, Question.forced])
    · have : isNaNB ((Question.nanBits .f64 a b).cut (w.tape w.drawn (.nanBits .f64 a b))) = true := by
        show isNaNB ((w.tape w.drawn (.nanBits .f64 a b) % 2) * 9223372036854775808 + 9218868437227405312 + 1 + (w.tape w.drawn (.nanBits .f64 a b) / 2) % 4503599627370495) = true
        have h1 : w.tape w.drawn (.nanBits .f64 a b) % 2 < 2 := Nat.mod_lt _ (by decide)
        have h2 : (w.tape w.drawn (.nanBits .f64 a b) / 2) % 4503599627370495 < 4503599627370495 := Nat.mod_lt _ (by decide)
        generalize w.tape w.drawn (.nanBits .f64 a b) % 2 = u at *
        generalize (w.tape w.drawn (.nanBits .f64 a b) / 2) % 4503599627370495 = q at *
        unfold isNaNB magB
        refine decide_eq_true ?_
        rcases (by omega : u = 0 ∨ u = 1) with rfl | rfl <;> omega
      unfold canB opC
      rw [if_pos this, h]
    · show (w.tape w.drawn (.nanBits .f64 a b) % 2) * 9223372036854775808 + 9218868437227405312 + 1 + (w.tape w.drawn (.nanBits .f64 a b) / 2) % 4503599627370495 < 18446744073709551616
      have h1 : w.tape w.drawn (.nanBits .f64 a b) % 2 < 2 := Nat.mod_lt _ (by decide)
      have h2 : (w.tape w.drawn (.nanBits .f64 a b) / 2) % 4503599627370495 < 4503599627370495 := Nat.mod_lt _ (by decide)
      omega
theorem read_isnan {b : Nat} (h : isNaNB b = true) : ∃ s t, double.read b = .nan s t := by
  have hm := of_decide_eq_true h
  unfold magB at hm
  unfold Format.read
  rw [signW]
  simp only []
  have e2 : double.binade = 4503599627370496 := by decide
  have e3 : double.infRung = 9218868437227405312 := by decide
  rw [e2, e3, if_neg (by omega), if_neg (by omega), if_neg (by omega)]
  exact ⟨_, _, rfl⟩
theorem fbits_nanl {op : BinOp} {a b : Nat} (h : isNaNB a = true) : floatBits op .f64 a b = none := by
  obtain ⟨s, t, e⟩ := read_isnan h
  unfold floatBits
  cases op <;> simp only [FloatKind.format, Format.add, Format.sub, Format.mul, Format.div, e] <;> rfl
theorem fbits_nanr {op : BinOp} {a b : Nat} (h : isNaNB b = true) : floatBits op .f64 a b = none := by
  obtain ⟨s, t, e⟩ := read_isnan h
  unfold floatBits
  cases op <;> simp only [FloatKind.format, Format.add, Format.sub, Format.mul, Format.div, e] <;> cases double.read a <;> rfl
theorem isnan_can (a : Nat) : isNaNB (canB a) = isNaNB a := by
  unfold canB
  cases h : isNaNB a
  · rw [if_neg (by decide), h]
  · rw [if_pos rfl]; decide
theorem canB_canB (a : Nat) : canB (canB a) = canB a := by
  cases h : isNaNB a
  · have e : canB a = a := by unfold canB; rw [h, if_neg (by decide)]
    rw [e, e]
  · have e : canB a = nanB := by unfold canB; rw [h, if_pos rfl]
    rw [e]; decide
theorem opC_canl (op : BinOp) (a b : Nat) : opC op (canB a) b = opC op a b := by
  cases h : isNaNB a
  · unfold canB; rw [h, if_neg (by decide)]
  · unfold opC; rw [fbits_nanl h, fbits_nanl (by rw [isnan_can]; exact h)]
theorem opC_canr (op : BinOp) (a b : Nat) : opC op a (canB b) = opC op a b := by
  cases h : isNaNB b
  · unfold canB; rw [h, if_neg (by decide)]
  · unfold opC; rw [fbits_nanr h, fbits_nanr (by rw [isnan_can]; exact h)]
set_option maxRecDepth 100000 in
theorem plain_any (b : Nat) (w : World) : Calls Tryz.prog 145 #[.float .f64 b] w fun e w' => e = .returned (.float .f64 (canB b)) ∧ w = w' := by
  have HB := Lib.hid (fbits_any b w)
  have HF := Lib.hid (fromBits_any (canB b) w)
  rw [canB_canB] at HF
  go_enter Tryz.func145, Tryz.ntmps145
  go_wp2_with fail
  refine HB.out.mono ?_
  rintro e w1 ⟨rfl, rfl⟩
  go_wp2_with fail
  refine HF.out.mono ?_
  rintro e w1 ⟨rfl, rfl⟩
  go_wp2_with fail
  go_ret
  exact ⟨rfl, rfl⟩
set_option maxRecDepth 100000 in
theorem same_any (a b : Nat) (w : World) : Calls Tryz.prog 150 #[.float .f64 a, .float .f64 b] w fun e w' => e = .returned (.bool (canB a == canB b)) ∧ w = w' := by
  have HA := Lib.hid (fbits_any a w)
  have HB := Lib.hid (fbits_any b w)
  have he : ((canB a : Int) == (canB b : Int)) = (canB a == canB b) := by
    rw [Bool.eq_iff_iff, beq_iff_eq, beq_iff_eq]
    exact Int.ofNat_inj
  generalize canB a = x at *
  generalize canB b = y at *
  generalize hz : (x == y) = z at *
  go_enter Tryz.func150, Tryz.ntmps150
  go_wp2_with fail
  refine HA.out.mono ?_
  rintro e w1 ⟨rfl, rfl⟩
  go_wp2_with fail
  refine HB.out.mono ?_
  rintro e w1 ⟨rfl, rfl⟩
  go_wp2_with fail
  go_ret
  exact ⟨by first | rfl | rw [← he], rfl⟩
/-- are all numbers -0? -/
def negC (l : List Nat) : Bool := decide (0 < l.length) && l.all (fun x => clsB x == 5)
theorem negC_take {l : List Nat} {j : Nat} (h : j < l.length) : (l.take (j + 1)).all (fun x => clsB x == 5) = ((l.take j).all (fun x => clsB x == 5) && (clsB l[j] == 5)) := by
  rw [List.take_succ_eq_append_getElem h, List.all_append]
  simp
set_option maxRecDepth 100000 in
set_option maxHeartbeats 4000000 in
theorem negative_any (w : World) {g o n cp : Nat} {l : List Nat} (hl : l.length = n) (hn2 : n ≤ 1000000) (hF : Fl w (some ⟨g, o, none⟩) l) (hc : ∀ x ∈ l, x < 18446744073709551616) :
    Calls Tryz.prog 142 #[.slice (some ⟨g, o, none⟩) n cp] w fun e w' => e = .returned (.bool (negC l)) ∧ w = w' := by
  have HF := Lib.hid hF
  have HL := Lib.hid hl
  have HC := Lib.hid hc
  clear hF hl hc
  go_enter Tryz.func142, Tryz.ntmps142
  go_wp2_with fail
  go_loopw [4, 7] (fun _ i wr => w = wr ∧ ∃ j : Nat, j ≤ n ∧ i = .int .i64 j ∧ Hid ((l.take j).all (fun x => clsB x == 5) = true)) (fun _ i _ => n - (intOf i).toNat)
  case atStart => exact ⟨rfl, 0, Nat.zero_le _, rfl, Lib.hid rfl⟩
  case round =>
    obtain ⟨rfl, j, hj, rfl, hy⟩ := hrel
    rcases Nat.lt_or_ge j n with hlt | hge
    · have hlt' : (j : Int) < n := by omega
      have hjl : j < l.length := by have := HL.out; omega
      obtain ⟨x, hx⟩ : ∃ x, x = l[j] := ⟨_, rfl⟩
      have cj : w.cell? ⟨g, o + j, none⟩ = some (.float .f64 x) := by rw [hx]; exact fl_at HF.out j hjl
      have hxl : x ∈ l := by rw [hx]; exact List.getElem_mem _
      have HK := Lib.hid (class_any x w (HC.out x hxl))
      have HT := Lib.hid (negC_take hjl)
      rw [← hx] at HT
      have HXL := Lib.hid hxl
      clear hx hxl
      by_cases he : clsB x = 5
      · have HN := Lib.hid (show (l.take (j + 1)).all (fun x => clsB x == 5) = true by rw [HT.out, hy.out, he]; rfl)
        rw [he] at HK
        clear he
        go_wp2_with fail
        refine HK.out.mono ?_
        rintro e w2 ⟨rfl, rfl⟩
        go_wp2_with fail
        go_roundw
        case rel => exact ⟨trivial, j + 1, hlt, by go_num, HN⟩
        case measure => simp [intOf]; omega
      · have HN := Lib.hid (show negC l = false by
          unfold negC
          have : l.all (fun x => clsB x == 5) = false := by
            rw [List.all_eq_false]
            exact ⟨x, HXL.out, by simpa using he⟩
          rw [this, Bool.and_false])
        have he2 : (clsB x == 5) = false := by simpa using he
        generalize clsB x = y at *
        go_wp2_with fail
        refine HK.out.mono ?_
        rintro e w2 ⟨rfl, rfl⟩
        go_wp2_with fail
        go_ret
        exact ⟨by rw [HN.out]; rfl, rfl⟩
    · obtain rfl : j = n := by omega
      have hnl : ¬ ((j : Int) < j) := by omega
      have HE := Lib.hid (show negC l = decide (0 < j) by
        have h1 := hy.out
        rw [List.take_of_length_le (by have := HL.out; omega)] at h1
        unfold negC
        rw [h1, Bool.and_true, HL.out])
      clear hy
      go_wp2_with fail
      go_ret
      exact ⟨by rw [HE.out]; rfl, rfl⟩
set_option maxRecDepth 100000 in
theorem copysign_neg (w : World) : Calls Tryz.prog 143 #[.float .f64 0, .float .f64 13830554455654793216] w fun e w' => e = .returned (.float .f64 9223372036854775808) ∧ w = w' := by
  have hb := fun b => run_bits b
  have hf := fun n : Int => run_from n
  go_enter Tryz.func143, Tryz.ntmps143
  go_wp2_with fail
  go_ret
  exact ⟨rfl, rfl⟩
end Go.Proofs.YtelakcjbknbehaaGreat
namespace Go.Proofs.YtelakcjbknbehaaGreat
open Go.RowKit Go.Lib Ieee

/-- is the one's magnitude at least the other's? -/
def geA (a b : Nat) : Bool := FloatKind.f64.format.order (magB a) (magB b) == some .gt || FloatKind.f64.format.order (magB a) (magB b) == some .eq
theorem mag_nan {b : Nat} (h : isNaNB b = true) : isNaNB (magB b) = true := by
  have hm := of_decide_eq_true h
  unfold magB at hm
  unfold isNaNB magB
  refine decide_eq_true ?_
  omega
theorem geA_can (a b : Nat) : geA (canB a) b = geA a b := by
  cases h : isNaNB a
  · have e : canB a = a := by unfold canB; rw [h, if_neg (by decide)]
    rw [e]
  · have e1 : FloatKind.f64.format.order (magB a) (magB b) = none := nan_order (mag_nan h) _
    have e2 : FloatKind.f64.format.order (magB (canB a)) (magB b) = none := nan_order (mag_nan (by rw [isnan_can]; exact h)) _
    unfold geA
    rw [e1, e2]
/-- a step of the sum: what is summed, and what was lost. -/
def stepC (p : Nat × Nat) (x : Nat) : Nat × Nat :=
  let t := opC .add p.1 x
  (t, opC .add p.2 (if geA p.1 x then opC .add (opC .sub p.1 t) x else opC .add (opC .sub x t) p.1))
/-- the sum. -/
def sumC (l : List Nat) : Nat :=
  if negC l then 9223372036854775808 else
    let p := l.foldl stepC (0, 0)
    if isNaNB p.2 then p.1 else opC .add p.1 p.2
theorem stepC_1 (p : Nat × Nat) (x : Nat) : (stepC p x).1 = opC .add p.1 x := rfl
theorem stepC_ge {p : Nat × Nat} {x : Nat} (h : geA p.1 x = true) : (stepC p x).2 = opC .add p.2 (opC .add (opC .sub p.1 (opC .add p.1 x)) x) := by
  unfold stepC; simp only [h, if_true]
theorem stepC_lt {p : Nat × Nat} {x : Nat} (h : geA p.1 x = false) : (stepC p x).2 = opC .add p.2 (opC .add (opC .sub x (opC .add p.1 x)) p.1) := by
  unfold stepC; simp [h]
set_option maxRecDepth 100000 in
set_option maxHeartbeats 4000000 in
theorem fsum_any (w : World) {g o n cp : Nat} {l : List Nat} (hl : l.length = n) (hn2 : n ≤ 1000000) (hF : Fl w (some ⟨g, o, none⟩) l) (hc : ∀ x ∈ l, x < 18446744073709551616) :
    Calls Tryz.prog 67 #[.slice (some ⟨g, o, none⟩) n cp] w fun e w' => e = .returned (.float .f64 (sumC l)) ∧ Chg [] w w' := by
  have HF := Lib.hid hF
  have HL := Lib.hid hl
  have HC := Lib.hid hc
  have HNEG := Lib.hid (negative_any w (cp := cp) hl hn2 hF hc)
  clear hF hl hc
  cases hneg : negC l with
  | true =>
    have HS := Lib.hid (show sumC l = 9223372036854775808 by unfold sumC; rw [if_pos hneg])
    rw [hneg] at HNEG
    have HCO := Lib.hid (copysign_neg w)
    clear hneg
    go_enter Tryz.func67, Tryz.ntmps67
    go_wp2_with fail
    refine HNEG.out.mono ?_
    rintro e w1 ⟨rfl, rfl⟩
    go_wp2_with fail
    refine HCO.out.mono ?_
    rintro e w1 ⟨rfl, rfl⟩
    go_wp2_with fail
    go_ret
    exact ⟨by rw [HS.out]; rfl, Chg.refl _ _⟩
  | false =>
    have HS := Lib.hid (show sumC l = if isNaNB (l.foldl stepC (0, 0)).2 then (l.foldl stepC (0, 0)).1 else opC .add (l.foldl stepC (0, 0)).1 (l.foldl stepC (0, 0)).2 by unfold sumC; rw [if_neg (by rw [hneg]; decide)])
    rw [hneg] at HNEG
    clear hneg
    go_enter Tryz.func67, Tryz.ntmps67
    go_wp2_with fail
    refine HNEG.out.mono ?_
    rintro e w1 ⟨rfl, rfl⟩
    go_wp2_with fail
    go_loopw [3, 4, 6, 7, 13] (fun s c _ _ i wr => ∃ (j a b : Nat), Chg [] w wr ∧ j ≤ n ∧ i = .int .i64 j ∧ s = .float .f64 a ∧ c = .float .f64 b ∧ a < 18446744073709551616 ∧ Hid ((l.take j).foldl stepC (0, 0) = (canB a, canB b))) (fun _ _ _ _ i _ => n - (intOf i).toNat)
    case atStart => exact ⟨0, 0, 0, Chg.refl _ _, Nat.zero_le _, rfl, rfl, rfl, by decide, Lib.hid (by rw [List.take_zero, List.foldl_nil]; decide)⟩
    case round =>
      obtain ⟨j, a, b, kr, hj, rfl, rfl, rfl, ha, hy⟩ := hrel
      rcases Nat.lt_or_ge j n with hlt | hge
      · have hlt' : (j : Int) < n := by omega
        have hjl : j < l.length := by have := HL.out; omega
        obtain ⟨x, hx⟩ : ∃ x, x = l[j] := ⟨_, rfl⟩
        have cj : wr.cell? ⟨g, o + j, none⟩ = some (.float .f64 x) := by rw [hx]; exact kr.cell (fl_at HF.out j hjl) (by simp)
        have hxl : x < 18446744073709551616 := by rw [hx]; exact HC.out _ (List.getElem_mem _)
        have HFD := Lib.hid (show (l.take (j + 1)).foldl stepC (0, 0) = stepC (canB a, canB b) x by rw [hx, List.take_succ_eq_append_getElem hjl, List.foldl_append, hy.out]; rfl)
        clear hx
        obtain ⟨t, w1, rt, ct, lt, k1⟩ := run_flop (op := .add) (Or.inl rfl) 33 a x wr
        have HA1 := Lib.hid (abs_any a w1 ha)
        have HA2 := Lib.hid (abs_any x w1 hxl)
        have CT := Lib.hid ct
        have LT := Lib.hid lt
        clear ct lt ha hxl
        cases hge : geA a x with
        | true =>
          obtain ⟨d, w2, rd, cd, -, k2⟩ := run_flop (op := .sub) (Or.inr (Or.inl rfl)) 33 a t w1
          obtain ⟨d2, w3, rd2, cd2, -, k3⟩ := run_flop (op := .add) (Or.inl rfl) 33 d x w2
          obtain ⟨c, w4, rc, cc, -, k4⟩ := run_flop (op := .add) (Or.inl rfl) 33 b d2 w3
          have HN := Lib.hid (show (l.take (j + 1)).foldl stepC (0, 0) = (canB t, canB c) by
            rw [HFD.out]
            refine Prod.ext ?_ ?_
            · rw [stepC_1, CT.out]; exact opC_canl _ _ _
            · rw [stepC_ge (by rw [geA_can]; exact hge), cc]
              show opC .add (canB b) (opC .add (opC .sub (canB a) (opC .add (canB a) x)) x) = opC .add b d2
              rw [opC_canl, opC_canl .sub, opC_canl .add a x, ← CT.out, opC_canr, ← cd, opC_canl, ← cd2, opC_canr])
          have kE := (((kr.then k1).then k2).then k3).then k4
          unfold geA at hge
          generalize magB a = ma at *
          generalize magB x = mx at *
          clear kr k1 k2 k3 k4 cd cd2 cc
          go_wp2_with fail
          refine HA1.out.mono ?_
          rintro e w5 ⟨rfl, rfl⟩
          go_wp2_with fail
          refine HA2.out.mono ?_
          rintro e w5 ⟨rfl, rfl⟩
          go_wp2_with fail
          go_roundw
          case rel => exact ⟨j + 1, t, c, kE, hlt, by go_num, rfl, rfl, LT.out, HN⟩
          case measure => simp [intOf]; omega
        | false =>
          obtain ⟨d, w2, rd, cd, -, k2⟩ := run_flop (op := .sub) (Or.inr (Or.inl rfl)) 33 x t w1
          obtain ⟨d2, w3, rd2, cd2, -, k3⟩ := run_flop (op := .add) (Or.inl rfl) 33 d a w2
          obtain ⟨c, w4, rc, cc, -, k4⟩ := run_flop (op := .add) (Or.inl rfl) 33 b d2 w3
          have HN := Lib.hid (show (l.take (j + 1)).foldl stepC (0, 0) = (canB t, canB c) by
            rw [HFD.out]
            refine Prod.ext ?_ ?_
            · rw [stepC_1, CT.out]; exact opC_canl _ _ _
            · rw [stepC_lt (by rw [geA_can]; exact hge), cc]
              show opC .add (canB b) (opC .add (opC .sub x (opC .add (canB a) x)) (canB a)) = opC .add b d2
              rw [opC_canl, opC_canr .add _ a, opC_canl .add a x, ← CT.out, opC_canr, ← cd, opC_canl, ← cd2, opC_canr])
          have kE := (((kr.then k1).then k2).then k3).then k4
          unfold geA at hge
          generalize magB a = ma at *
          generalize magB x = mx at *
          clear kr k1 k2 k3 k4 cd cd2 cc
          go_wp2_with fail
          refine HA1.out.mono ?_
          rintro e w5 ⟨rfl, rfl⟩
          go_wp2_with fail
          refine HA2.out.mono ?_
          rintro e w5 ⟨rfl, rfl⟩
          go_wp2_with fail
          go_roundw
          case rel => exact ⟨j + 1, t, c, kE, hlt, by go_num, rfl, rfl, LT.out, HN⟩
          case measure => simp [intOf]; omega
      · obtain rfl : j = n := by omega
        have hnl : ¬ ((j : Int) < j) := by omega
        have h1 := hy.out
        rw [List.take_of_length_le (by have := HL.out; omega)] at h1
        rw [h1] at HS
        simp only [isnan_can] at HS
        have hor := order_fmt b
        clear h1 hy
        cases hnan : isNaNB b with
        | true =>
          rw [hnan] at hor
          rw [hnan, if_pos rfl] at HS
          have HP := Lib.hid (plain_any a wr)
          clear hnan
          go_wp2_with fail
          refine HP.out.mono ?_
          rintro e w5 ⟨rfl, rfl⟩
          go_wp2_with fail
          go_ret
          exact ⟨by rw [HS.out]; rfl, kr⟩
        | false =>
          rw [hnan] at hor
          rw [hnan, if_neg (by decide), opC_canl, opC_canr] at HS
          obtain ⟨t, w1, rt, ct, lt, k1⟩ := run_flop (op := .add) (Or.inl rfl) 33 a b wr
          rw [← ct] at HS
          have HP := Lib.hid (plain_any t w1)
          have kE := kr.then k1
          clear hnan ct lt
          go_wp2_with fail
          refine HP.out.mono ?_
          rintro e w5 ⟨rfl, rfl⟩
          go_wp2_with fail
          go_ret
          exact ⟨by rw [HS.out]; rfl, kE⟩
end Go.Proofs.YtelakcjbknbehaaGreat
namespace Go.Proofs.YtelakcjbknbehaaGreat
open Go.RowKit Go.Lib Ieee

/-- of two numbers the lesser. -/
def lessK (a x : Nat) : Nat := if keyB x < keyB a then x else a
/-- the least of numbers; the NaN, where one is. -/
def minB (l : List Nat) : Nat := if nanB ∈ l then nanB else l.foldl lessK (l.headD 0)
theorem lessK_pick {a x : Nat} (h : keyB x < keyB a) : lessK a x = x := if_pos h
theorem lessK_keep {a x : Nat} (h : ¬ keyB x < keyB a) : lessK a x = a := if_neg h
theorem run_fromI (n : Int) (w : World) : (convert 3 33 (.int .i64 n)).run Tryz.prog w = .ok (.float .f64 (intB n)) w :=
  run_convert_int_float w 3 33 .i64 .f64 n (by rw [Tryz.underlying3]; rfl) Tryz.underlying33
/-- the mean. -/
def meanC (l : List Nat) : Nat := opC .quo (sumC l) (intB l.length)
set_option maxRecDepth 100000 in
set_option maxHeartbeats 4000000 in
theorem fmin_any (w : World) {g o n cp : Nat} {l : List Nat} (hl : l.length = n) (hn : 0 < n) (hn2 : n ≤ 1000000) (hF : Fl w (some ⟨g, o, none⟩) l) (hc : ∀ x ∈ l, CanB x) :
    Calls Tryz.prog 108 #[.slice (some ⟨g, o, none⟩) n cp, .int .i64 (-1)] w fun e w' => e = .returned (.tuple #[.float .f64 (minB l), .int .i64 0]) ∧ w = w' := by
  have HF := Lib.hid hF
  have HL := Lib.hid hl
  have HC := Lib.hid hc
  have hn0 : ((n : Int) == 0) = false := beq_false_of_ne (by omega)
  have hnp : (0 : Int) < n := by omega
  obtain ⟨x0, hx0⟩ : ∃ x0, x0 = l.headD 0 := ⟨_, rfl⟩
  have c0 : w.cell? ⟨g, o, none⟩ = some (.float .f64 x0) := by
    have := fl_at hF 0 (by omega)
    rw [hx0]
    cases l with
    | nil => simp at hl; omega
    | cons a l => simpa using this
  have hm0 : x0 ∈ l := by
    rw [hx0]
    cases l with
    | nil => simp at hl; omega
    | cons a l => exact List.mem_cons_self
  have HX0 := Lib.hid (And.intro hx0 hm0)
  clear hF hl hc hx0 hm0
  go_enter Tryz.func108, Tryz.ntmps108
  go_wp2_with fail
  go_loopw [6, 8, 17] (fun out _ i wr => w = wr ∧ ∃ (j : Nat) (y : Nat), j ≤ n ∧ i = .int .i64 j ∧ out = .float .f64 y ∧ Hid (y = (l.take j).foldl lessK x0 ∧ nanB ∉ l.take j ∧ y ∈ l)) (fun _ _ i _ => n - (intOf i).toNat)
  case atStart => exact ⟨rfl, 0, x0, Nat.zero_le _, rfl, rfl, Lib.hid ⟨rfl, by simp, HX0.out.2⟩⟩
  case round =>
    obtain ⟨rfl, j, y, hj, rfl, rfl, hy⟩ := hrel
    rcases Nat.lt_or_ge j n with hlt | hge
    · have hlt' : (j : Int) < n := by omega
      have hjl : j < l.length := by have := HL.out; omega
      obtain ⟨x, hx⟩ : ∃ x, x = l[j] := ⟨_, rfl⟩
      have cj : w.cell? ⟨g, o + j, none⟩ = some (.float .f64 x) := by rw [hx]; exact fl_at HF.out j hjl
      have hxl : x ∈ l := by rw [hx]; exact List.getElem_mem _
      have hxc := HC.out x hxl
      have hor := order_fmt x
      have HTK := Lib.hid (show l.take (j + 1) = l.take j ++ [x] by rw [hx]; exact List.take_succ_eq_append_getElem hjl)
      have HXL := Lib.hid hxl
      clear hx hxl
      cases hnan : isNaNB x with
      | true =>
        rw [hnan] at hor
        have HN := Lib.hid (show minB l = nanB by
          have e := (nan_can hxc).1 hnan
          exact if_pos (e ▸ HXL.out))
        have HE := Lib.hid ((nan_can hxc).1 hnan)
        have HCAN := Lib.hid (canB_of hxc)
        have HB := Lib.hid (fbits_any x w)
        rw [HCAN.out] at HB
        have HFR := Lib.hid (fromBits_any x w)
        rw [HCAN.out] at HFR
        clear hnan hxc
        go_wp2_with fail
        refine HB.out.mono ?_
        rintro e w1 ⟨rfl, rfl⟩
        go_wp2_with fail
        refine HFR.out.mono ?_
        rintro e w1 ⟨rfl, rfl⟩
        go_wp2_with fail
        go_ret2
        exact ⟨by rw [HN.out, ← HE.out]; rfl, rfl⟩
      | false =>
        rw [hnan] at hor
        have hxn : x ≠ nanB := fun e => by rw [(nan_can hxc).2 e] at hnan; cases hnan
        have HXN := Lib.hid hxn
        have hyc := HC.out y hy.out.2.2
        have HK := Lib.hid (fcmp_any x y w hxc hyc)
        clear hnan hxc hyc hxn
        have HTN := Lib.hid (show nanB ∉ l.take (j + 1) by rw [HTK.out]; simp; exact ⟨hy.out.2.1, fun e => HXN.out e.symm⟩)
        have HFD := Lib.hid (show (l.take (j + 1)).foldl lessK x0 = lessK y x by rw [HTK.out, List.foldl_append, ← hy.out.1]; rfl)
        by_cases hk : keyB x < keyB y
        · have e1 : cmpK (keyB x) (keyB y) = -1 := by unfold cmpK; rw [if_pos hk]
          rw [e1] at HK
          have HM := Lib.hid (lessK_pick hk)
          clear hk e1
          go_wp2_with fail
          refine HK.out.mono ?_
          rintro e w1 ⟨rfl, rfl⟩
          go_wp2_with fail
          go_roundw
          case rel => exact ⟨trivial, j + 1, x, hlt, by go_num, rfl, Lib.hid ⟨by rw [HFD.out, HM.out], HTN.out, HXL.out⟩⟩
          case measure => simp [intOf]; omega
        · obtain ⟨c, hc, hc2⟩ : ∃ c, cmpK (keyB x) (keyB y) = c ∧ (c = 0 ∨ c = 1) := by
            refine ⟨_, rfl, ?_⟩
            by_cases h1 : keyB y < keyB x
            · exact Or.inr (by unfold cmpK; rw [if_neg hk, if_pos h1])
            · exact Or.inl (by unfold cmpK; rw [if_neg hk, if_neg h1])
          rw [hc] at HK
          have HM := Lib.hid (lessK_keep hk)
          clear hk hc
          rcases hc2 with rfl | rfl
          all_goals
            go_wp2_with fail
            refine HK.out.mono ?_
            rintro e w1 ⟨rfl, rfl⟩
            go_wp2_with fail
            go_roundw
            case rel => exact ⟨trivial, j + 1, y, hlt, by go_num, rfl, Lib.hid ⟨by rw [HFD.out, HM.out], HTN.out, hy.out.2.2⟩⟩
            case measure => simp [intOf]; omega
    · obtain rfl : j = n := by omega
      have hnl : ¬ ((j : Int) < j) := by omega
      have HE := Lib.hid (show minB l = y by
        have h1 := hy.out
        rw [List.take_of_length_le (by have := HL.out; omega)] at h1
        unfold minB
        rw [if_neg h1.2.1, h1.1, HX0.out.1])
      clear hy
      go_wp2_with fail
      go_ret2
      exact ⟨by rw [HE.out]; rfl, rfl⟩
set_option maxRecDepth 100000 in
set_option maxHeartbeats 2000000 in
theorem fmean_any (w : World) {g o n cp : Nat} {l : List Nat} (hl : l.length = n) (hn : 0 < n) (hn2 : n ≤ 1000000) (hF : Fl w (some ⟨g, o, none⟩) l) (hc : ∀ x ∈ l, x < 18446744073709551616) :
    Calls Tryz.prog 72 #[.slice (some ⟨g, o, none⟩) n cp] w fun e w' => e = .returned (.tuple #[.float .f64 (meanC l), .int .i64 0]) ∧ Chg [] w w' := by
  have HS := Lib.hid (fsum_any w (cp := cp) hl hn2 hF hc)
  have HM := Lib.hid (show meanC l = opC .quo (sumC l) (intB n) by unfold meanC; rw [hl])
  have hn0 : ((n : Int) == 0) = false := beq_false_of_ne (by omega)
  have hcv := fun w => run_fromI (n : Int) w
  clear hF hl hc
  generalize sumC l = s at *
  generalize intB n = z at *
  go_enter Tryz.func72, Tryz.ntmps72
  go_wp2_with fail
  refine HS.out.mono ?_
  rintro e w1 ⟨rfl, k1⟩
  obtain ⟨t, w2, rt, ct, lt, k2⟩ := run_flop (op := .quo) (Or.inr (Or.inr (Or.inr rfl))) 33 s z w1
  rw [← ct] at HM
  have HP := Lib.hid (plain_any t w2)
  have kE := k1.then k2
  clear k1 k2 ct lt
  go_wp2_with fail
  refine HP.out.mono ?_
  rintro e w5 ⟨rfl, rfl⟩
  go_wp2_with fail
  go_ret2
  exact ⟨by rw [HM.out]; rfl, kE⟩
set_option maxRecDepth 100000 in
theorem fmean71 (w : World) {g o n cp : Nat} {l : List Nat} (hl : l.length = n) (hn : 0 < n) (hn2 : n ≤ 1000000) (hF : Fl w (some ⟨g, o, none⟩) l) (hc : ∀ x ∈ l, x < 18446744073709551616) :
    Calls Tryz.prog 71 #[.slice (some ⟨g, o, none⟩) n cp] w fun e w' => e = .returned (.tuple #[.float .f64 (meanC l), .int .i64 0]) ∧ Chg [] w w' := by
  have HM := Lib.hid (fmean_any w (cp := cp) hl hn hn2 hF hc)
  clear hl hF hc
  go_enter Tryz.func71, Tryz.ntmps71
  go_wp2_with fail
  refine HM.out.mono ?_
  rintro e w2 ⟨rfl, k2⟩
  go_wp2_with fail
  go_ret2
  exact ⟨rfl, k2⟩
section
variable {lw P k : Nat} {hd : Int} {c : Nat → Nat}
set_option maxRecDepth 100000 in
theorem fleast_any (w : World) {g o n cp : Nat} {l : List Nat} (hl : l.length = n) (hn : 0 < n) (hn2 : n ≤ 1000000) (hF : Fl w (some ⟨g, o, none⟩) l) (hc : ∀ x ∈ l, CanB x) :
    Calls Tryz.prog 73 #[.slice (some ⟨g, o, none⟩) n cp] w fun e w' => e = .returned (.tuple #[.float .f64 (minB l), .int .i64 0]) ∧ w = w' := by
  have H47 : Calls Tryz.prog 74 #[.slice (some ⟨g, o, none⟩) n cp] w fun e w' => e = .returned (.tuple #[.float .f64 (minB l), .int .i64 0]) ∧ w = w' := by
    have HM := Lib.hid (fmin_any w (cp := cp) hl hn hn2 hF hc)
    clear hl hF hc
    go_enter Tryz.func74, Tryz.ntmps74
    go_wp2_with fail
    refine HM.out.mono ?_
    rintro e w2 ⟨rfl, rfl⟩
    go_wp2_with fail
    go_ret2
    exact ⟨rfl, rfl⟩
  have HM := Lib.hid H47
  clear hl hF hc H47
  go_enter Tryz.func73, Tryz.ntmps73
  go_wp2_with fail
  refine HM.out.mono ?_
  rintro e w2 ⟨rfl, rfl⟩
  go_wp2_with fail
  go_ret2
  exact ⟨rfl, rfl⟩
end
end Go.Proofs.YtelakcjbknbehaaGreat
namespace Go.Proofs
open Go.Shelf
def Tryz.sortFl_ren : Go.Shelf.Ren := ⟨fun | 6 => 204 | 15 => 240 | 14 => 239 | 28 => 267 | 29 => 268 | 20 => 259 | 21 => 260 | 22 => 261 | 23 => 262 | 24 => 263 | 25 => 264 | 26 => 265 | 27 => 266 | 46 => 289 | 47 => 290 | 48 => 291 | 49 => 292 | 50 => 293 | 57 => 302 | n => n, fun | 22 => 38 | 24 => 33 | 25 => 93 | 3 => 3 | 39 => 256 | 0 => 0 | 53 => 214 | 55 => 92 | 4 => 4 | 46 => 337 | 45 => 336 | 50 => 329 | 5 => 5 | 9 => 9 | 66 => 357 | 70 => 361 | 76 => 368 | 77 => 62 | n => n, fun | n => n⟩
theorem Tryz.sortFl : Go.Proofs.SlLaysF.n6 Tryz.prog Tryz.sortFl_ren := {
  mixed := by kernel_rfl
  f6 := ⟨Tryz.f204.name, by decide, Tryz.func204.trans (congrArg some (by kernel_rfl))⟩
  f14 := ⟨Tryz.f239.name, by decide, Tryz.func239.trans (congrArg some (by kernel_rfl))⟩
  f15 := Tryz.func240.trans (congrArg some (by kernel_rfl))
  f20 := ⟨Tryz.f259.name, by decide, Tryz.func259.trans (congrArg some (by kernel_rfl))⟩
  f21 := ⟨Tryz.f260.name, by decide, Tryz.func260.trans (congrArg some (by kernel_rfl))⟩
  f22 := ⟨Tryz.f261.name, by decide, Tryz.func261.trans (congrArg some (by kernel_rfl))⟩
  f23 := ⟨Tryz.f262.name, by decide, Tryz.func262.trans (congrArg some (by kernel_rfl))⟩
  f24 := ⟨Tryz.f263.name, by decide, Tryz.func263.trans (congrArg some (by kernel_rfl))⟩
  f25 := ⟨Tryz.f264.name, by decide, Tryz.func264.trans (congrArg some (by kernel_rfl))⟩
  f26 := ⟨Tryz.f265.name, by decide, Tryz.func265.trans (congrArg some (by kernel_rfl))⟩
  f27 := ⟨Tryz.f266.name, by decide, Tryz.func266.trans (congrArg some (by kernel_rfl))⟩
  f28 := Tryz.func267.trans (congrArg some (by kernel_rfl))
  f29 := Tryz.func268.trans (congrArg some (by kernel_rfl))
  f46 := ⟨Tryz.f289.name, by decide, Tryz.func289.trans (congrArg some (by kernel_rfl))⟩
  f47 := Tryz.func290.trans (congrArg some (by kernel_rfl))
  f48 := Tryz.func291.trans (congrArg some (by kernel_rfl))
  f49 := ⟨Tryz.f292.name, by decide, Tryz.func292.trans (congrArg some (by kernel_rfl))⟩
  f50 := ⟨Tryz.f293.name, by decide, Tryz.func293.trans (congrArg some (by kernel_rfl))⟩
  f57 := ⟨Tryz.f302.name, by decide, Tryz.func302.trans (congrArg some (by kernel_rfl))⟩
  t0 := Tryz.underlying0
  a0 := Tryz.isAgg0
  z0 := Tryz.sizeOf0
  v0 := Tryz.zeroValue0
  t3 := Tryz.underlying3
  a3 := Tryz.isAgg3
  z3 := Tryz.sizeOf3
  v3 := Tryz.zeroValue3
  t4 := Tryz.underlying4
  a4 := Tryz.isAgg4
  z4 := Tryz.sizeOf4
  v4 := Tryz.zeroValue4
  t5 := Tryz.underlying5
  a5 := Tryz.isAgg5
  z5 := Tryz.sizeOf5
  v5 := Tryz.zeroValue5
  t9 := Tryz.underlying9
  a9 := Tryz.isAgg9
  z9 := Tryz.sizeOf9
  v9 := Tryz.zeroValue9
  t22 := Tryz.underlying38
  a22 := Tryz.isAgg38
  z22 := Tryz.sizeOf38
  v22 := Tryz.zeroValue38
  a24 := Tryz.isAgg33
  z24 := Tryz.sizeOf33
  t25 := Tryz.underlying93
  a25 := Tryz.isAgg93
  z25 := Tryz.sizeOf93
  v25 := Tryz.zeroValue93
  t39 := Tryz.underlying256
  a39 := Tryz.isAgg256
  z39 := Tryz.sizeOf256
  v39 := Tryz.zeroValue256
  t45 := Tryz.underlying336
  a45 := Tryz.isAgg336
  z45 := Tryz.sizeOf336
  v45 := Tryz.zeroValue336
  t46 := Tryz.underlying337
  a46 := Tryz.isAgg337
  z46 := Tryz.sizeOf337
  v46 := Tryz.zeroValue337
  t50 := Tryz.underlying329
  a50 := Tryz.isAgg329
  z50 := Tryz.sizeOf329
  v50 := Tryz.zeroValue329
  t53 := Tryz.underlying214
  a53 := Tryz.isAgg214
  z53 := Tryz.sizeOf214
  v53 := Tryz.zeroValue214
  t55 := Tryz.underlying92
  a55 := Tryz.isAgg92
  z55 := Tryz.sizeOf92
  v55 := Tryz.zeroValue92
  t66 := Tryz.underlying357
  a66 := Tryz.isAgg357
  z66 := Tryz.sizeOf357
  v66 := Tryz.zeroValue357
  t70 := Tryz.underlying361
  a70 := Tryz.isAgg361
  z70 := Tryz.sizeOf361
  v70 := Tryz.zeroValue361
  t76 := Tryz.underlying368
  a76 := Tryz.isAgg368
  z76 := Tryz.sizeOf368
  v76 := Tryz.zeroValue368
  t77 := Tryz.underlying62
  a77 := Tryz.isAgg62
  z77 := Tryz.sizeOf62
  v77 := Tryz.zeroValue62 }
end Go.Proofs
namespace Go.Proofs.YtelakcjbknbehaaGreat
open Go.Shelf Go.RowKit Go.Lib Go.Sort

/-- a number as cells keep it. -/
abbrev CanN : Type := {x : Nat // CanB x}
instance : Inhabited CanN := ⟨⟨0, by decide, by decide⟩⟩
def encFl (x : CanN) : Value := .float .f64 x.1
def cfFl (x y : CanN) : Int := cmpK (keyB x.1) (keyB y.1)
theorem ltFl (x y : CanN) : ltOf cfFl x y = decide (keyB x.1 < keyB y.1) := by
  unfold ltOf cfFl cmpK
  by_cases h1 : keyB x.1 < keyB y.1
  · simp [h1]
  · by_cases h2 : keyB y.1 < keyB x.1 <;> simp [h1, h2]
theorem swoFl : SWO (ltOf cfFl) where
  irrefl x := by rw [ltFl]; simp
  trans x y z h1 h2 := by rw [ltFl] at *; simp at *; omega
  ntrans x y z h1 h2 := by rw [ltFl] at *; simp at *; omega
theorem keyB_inj {x y : Nat} (hx : x < 18446744073709551616) (hy : y < 18446744073709551616) (h : keyB x = keyB y) : x = y := by
  unfold keyB at h
  split at h <;> split at h <;> omega
theorem totFl (x y : CanN) (h1 : ltOf cfFl x y = false) (h2 : ltOf cfFl y x = false) : x = y := by
  rw [ltFl] at h1 h2
  have a := of_decide_eq_false h1
  have b := of_decide_eq_false h2
  exact Subtype.ext (keyB_inj x.2.1 y.2.1 (by omega))
theorem cmpLaysFl (blk off size : Nat) (w : World) : CmpLays1 Tryz.prog 178 #[] encFl cfFl blk off size w :=
  fun _ _ _ _ x y => (fcmp_any x.1 y.1 _ x.2 y.2).mono fun _ _ ⟨he, hw⟩ => ⟨he, 0, #[], by rw [← hw, grow_empty]; rfl⟩
/-- numbers in their order. -/
def sortK (l : List Nat) : List Nat := l.mergeSort fun x y => decide (keyB x ≤ keyB y)
theorem sortK_len (l : List Nat) : (sortK l).length = l.length := List.length_mergeSort _
theorem sortK_perm (l : List Nat) : (sortK l).Perm l := List.mergeSort_perm _ _
theorem sortK_pair (l : List Nat) : (sortK l).Pairwise fun x y => keyB x ≤ keyB y := by
  have := List.pairwise_mergeSort (le := fun x y => decide (keyB x ≤ keyB y)) (fun a b c h1 h2 => by simp at *; omega) (fun a b => by simp; omega) l
  exact this.imp fun h => by simpa using h
set_option maxRecDepth 100000 in
theorem sort_fl (w : World) {g n cap : Nat} {cur : Array Value} {l : List Nat} (hb : w.heap[g]? = some (.cells cur 33 (0, 0))) (hs : Fl w (some ⟨g, 0, none⟩) l) (hl : l.length = n) (hn : n ≤ 1000000) (hc : ∀ x ∈ l, CanB x) :
    Calls Tryz.prog 204 #[.slice (some ⟨g, 0, none⟩) n cap, .func (.func 178) #[] #[]] w fun e w' => e = .returned (.tuple #[]) ∧ Chg [g] w w' ∧ Fl w' (some ⟨g, 0, none⟩) (sortK l) := by
  have eg : ∀ args w, (callFunc 178 args).run Tryz.prog w = .ok (.enter 178 args) w := enters_of Tryz.func178 (by kernel_rfl) rfl
  obtain ⟨d, hd⟩ : ∃ d : Array CanN, d.toList.map Subtype.val = l := by
    refine ⟨(l.attach.map fun x => (⟨x.1, hc x.1 x.2⟩ : CanN)).toArray, ?_⟩
    simp only [List.map_map, Function.comp_def]
    exact List.attach_map_subtype_val l
  have hz : d.size = n := by rw [← hl, ← hd]; simp
  have hget : ∀ j (hj : j < d.size), (d[j]!).1 = l[j]'(by omega) := by
    intro j hj
    subst hd
    rw [List.getElem_map, getElem!_pos d j hj]
    simp
  have hH : Holds encFl w g 0 d := by
    intro j hj
    refine ⟨?_, unfrozen hb _⟩
    have := fl_at hs j (by omega)
    rw [← hget j hj] at this
    exact this
  have hcon := Any.slices_SortFunc_total Tryz.sortFl encFl (fun _ => rfl) cfFl swoFl 178 #[] g 0 cap d w eg (cmpLaysFl g 0 d.size w) hH (heap_lt hb) (by omega) totFl
  change Calls Tryz.prog 204 _ _ _ at hcon
  rw [hz] at hcon
  refine hcon.mono ?_
  rintro e w' ⟨rfl, m, os, rfl⟩
  have hm : (d.toList.mergeSort fun x y => !(ltOf cfFl) y x).map Subtype.val = sortK l := by
    rw [← hd]
    unfold sortK
    refine List.map_mergeSort fun a _ b _ => ?_
    rw [ltFl, Bool.eq_iff_iff]
    simp
  have hsz : (d.toList.mergeSort fun x y => !(ltOf cfFl) y x).toArray.size = d.size := by simp
  have hH2 := holds_sortWorld encFl w g 0 m d _ os (heap_lt hb) hH hsz
  refine ⟨rfl, ((chg_ahead w m).then (chg_mapBlock _ g _)).then (chg_grow _ os), ?_⟩
  refine Or.inr ⟨g, 0, rfl, fun j hj => ?_⟩
  have hj2 : j < (d.toList.mergeSort fun x y => !(ltOf cfFl) y x).toArray.size := by
    rw [hsz, hz, ← hl, ← sortK_len]; exact hj
  have h2 := (hH2 j hj2).1
  rw [h2]
  unfold encFl
  congr 2
  rw [getElem!_pos _ j hj2]
  have : (sortK l)[j] = ((d.toList.mergeSort fun x y => !(ltOf cfFl) y x).map Subtype.val)[j]'(by rw [hm]; exact hj) := by congr 1; exact hm.symm
  rw [this, List.getElem_map]
  simp
end Go.Proofs.YtelakcjbknbehaaGreat
namespace Go.Proofs.YtelakcjbknbehaaGreat
open Go.RowKit Go.Lib

theorem make_fl (w : World) {n : Nat} (hn : n ≤ 1000000) : ∃ w', (Instr.makeSlice 38 (.int .i64 0) (.int .i64 n)).run Tryz.prog w = .ok (.slice (some ⟨w.heap.size, 0, none⟩) 0 n) w' ∧ w'.ownsRow w.heap.size 33 1 (.slice (some ⟨w.heap.size, 0, none⟩) 0 n) 0 [] ∧ Chg [] w w' := by
  obtain ⟨i, hi, hz, hs, hb⟩ : ∃ i, Tryz.prog.info? 33 = some i ∧ i.zero = some (.float .f64 0) ∧ i.size = 1 ∧ i.bytes = 8 := by
    have h := inf42
    cases hi : Tryz.prog.info? 33 with
    | none => rw [hi] at h; cases h
    | some i =>
      rw [hi] at h
      have h' := Option.some.inj h
      simp only [Prod.mk.injEq] at h'
      exact ⟨i, rfl, h'.1, h'.2.1, h'.2.2⟩
  obtain ⟨w', h1, h2, h3⟩ := run_makeSlice_owned (P := Tryz.prog) w w.heap.size 38 33 i (.float .f64 0) 1 ty22 hi hz hs .i64 .i64 n (by omega) (by rw [hb]; omega) (by simp [maxLen]; omega) (Nat.le_refl _)
  exact ⟨w', h1, h2, Chg.of_grown0 h3⟩
set_option maxRecDepth 100000 in
set_option maxHeartbeats 4000000 in
theorem fsort_any (w : World) {g o n cp : Nat} {l : List Nat} (hl : l.length = n) (hn : 0 < n) (hn2 : n ≤ 1000000) (hF : Fl w (some ⟨g, o, none⟩) l) (hc : ∀ x ∈ l, CanB x) :
    Calls Tryz.prog 149 #[.slice (some ⟨g, o, none⟩) n cp] w fun e w' => ∃ g' cp', e = .returned (.slice (some ⟨g', 0, none⟩) n cp') ∧ w.heap.size ≤ g' ∧ n ≤ cp' ∧ Chg [] w w' ∧ Fl w' (some ⟨g', 0, none⟩) (sortK l) := by
  have HF := Lib.hid hF
  have HL := Lib.hid hl
  have HC := Lib.hid hc
  obtain ⟨w0, rm, om, km⟩ := make_fl w hn2
  have HM := Lib.hid (And.intro om km)
  clear hF hl hc om km
  go_enter Tryz.func149, Tryz.ntmps149
  go_wp2_with fail
  go_loopw [3, 5, 11] (fun v _ i wr => ∃ j : Nat, Chg [] w wr ∧ j ≤ n ∧ i = .int .i64 j ∧ wr.ownsRow w.heap.size 33 1 v j (flCells (l.take j))) (fun _ _ i _ => n - (intOf i).toNat)
  case atStart => exact ⟨0, HM.out.2, Nat.zero_le _, rfl, HM.out.1⟩
  case round =>
    obtain ⟨j, kr, hj, rfl, hor⟩ := hrel
    rcases Nat.lt_or_ge j n with hlt | hge
    · have hlt' : (j : Int) < n := by omega
      have hjl : j < l.length := by have := HL.out; omega
      obtain ⟨x, hx⟩ : ∃ x, x = l[j] := ⟨_, rfl⟩
      have cj : wr.cell? ⟨g, o + j, none⟩ = some (.float .f64 x) := by rw [hx]; exact kr.cell (fl_at HF.out j hjl) (by simp)
      have hxc : CanB x := by rw [hx]; exact HC.out _ (List.getElem_mem _)
      have HB := Lib.hid (fbits_any x wr)
      rw [canB_of hxc] at HB
      have HFR := Lib.hid (fromBits_any x wr)
      rw [canB_of hxc] at HFR
      have HT := Lib.hid (show l.take (j + 1) = l.take j ++ [x] by rw [hx]; exact List.take_succ_eq_append_getElem hjl)
      have HO := Lib.hid hor
      have HK := Lib.hid kr
      have hs0 := kr.size
      clear hx hxc hor kr
      go_wp2_with fail
      refine HB.out.mono ?_
      rintro e w1 ⟨rfl, rfl⟩
      go_wp2_with fail
      refine HFR.out.mono ?_
      rintro e w1 ⟨rfl, rfl⟩
      go_wp2_with (at_builtin; refine wpList_append_lit rfl (.tmp 15) (.tmp 19) 38 33 rfl ty22 inf42 rfl (by decide) w.heap.size wr (flCells [x]) 1 rfl _ j (flCells (l.take j)) rfl HO.out (by omega) (by decide) hs0 (k := 0) rfl (flCells_one _) rfl 1 rfl ?_; intro v' w' hap)
      go_roundw
      case rel => exact ⟨j + 1, Chg.of_below (HK.out.below0.trans hap.2.1), hlt, by go_num, by rw [HT.out]; have := hap.1; unfold flCells at *; simpa using this⟩
      case measure => simp [intOf]; omega
    · obtain rfl : j = n := by omega
      have hnl : ¬ ((j : Int) < j) := by omega
      have htl : l.take j = l := List.take_of_length_le (by have := HL.out; omega)
      rw [htl] at hor
      obtain ⟨g', c', rfl, hFv, hgv, hle⟩ := fl_own hor hn
      have hb : ∃ cur, wr.heap[g']? = some (.cells cur 33 (0, 0)) := by
        rcases hor.2 with ⟨h0, _⟩ | ⟨g2, cap, cur, e, _, h2, _⟩
        · cases h0
        · cases e; exact ⟨cur, h2⟩
      obtain ⟨cur, hb⟩ := hb
      have HS := Lib.hid (sort_fl wr (cap := c') hb hFv HL.out hn2 HC.out)
      have HK := Lib.hid kr
      clear hor hFv hb kr htl
      go_wp2_with fail
      refine HS.out.mono ?_
      rintro e w1 ⟨rfl, k1, hF1⟩
      go_wp2_with fail
      go_ret
      exact ⟨g', c', rfl, hgv, hle, HK.out.trans k1 (fun x hx hlt => by simp at hx; omega), hF1⟩
end Go.Proofs.YtelakcjbknbehaaGreat
namespace Go.Proofs.YtelakcjbknbehaaGreat
open Go.RowKit Go.Lib Ieee

/-- what the extern answers at a number that was read. -/
def intG (_name : String) (way : Ieee.Toward) (x : Nat) : Ieee.Datum → Sem Value
  | .nan s t =>
    if FloatKind.f64.format.quiet t = t then pure (.float .f64 x) else do
      let kept ← choose (.extern "math.Floor,Ceil,Trunc,RoundToEven.signallingNaN kept" 2)
      pure (.float .f64 (if kept == 1 then x else FloatKind.f64.encode (.nan s (FloatKind.f64.format.quiet t))))
  | d => pure (.float .f64 (FloatKind.f64.encode (d.integral way)))
theorem toIntegral_eq (name : String) (way : Ieee.Toward) (x : Nat) : Extern.MathFloor.toIntegral name way #[.float .f64 x] = intG name way x (FloatKind.f64.decode x) := rfl
theorem intG_num {name : String} {way : Ieee.Toward} {x : Nat} {d : Ieee.Datum} (h : d.isNaN = false) : intG name way x d = pure (.float .f64 (FloatKind.f64.encode (d.integral way))) := by
  cases d with
  | number s m e => rfl
  | infinity s => rfl
  | nan s t => cases h
theorem run_floor {b : Nat} (w : World) (h : isNaNB b = false) : (callFunc 202 #[.float .f64 b]).run Tryz.prog w = .ok (.value (.float .f64 (wholeB .down b))) w := by
  rw [run_callFunc_extern Tryz.func202 (by kernel_rfl) (by kernel_rfl) (by kernel_rfl) (show Extern.find Tryz.f202 = some (Extern.MathFloor.toIntegral "math.archFloor" .down) by kernel_rfl)]
  have hd : (FloatKind.f64.decode b).isNaN = false := by
    rw [← h, ← read_nan]; rfl
  rw [toIntegral_eq, intG_num hd]
  rfl
set_option maxRecDepth 100000 in
theorem floor_any (b : Nat) (w : World) (h : isNaNB b = false) : Calls Tryz.prog 148 #[.float .f64 b] w fun e w' => e = .returned (.float .f64 (wholeB .down b)) ∧ w = w' := by
  have hr := fun w => run_floor w h
  generalize wholeB .down b = c at *
  go_enter Tryz.func148, Tryz.ntmps148
  go_wp2_with fail
  go_ret
  exact ⟨rfl, rfl⟩
/-- a whole number that a float is turned to. -/
theorem run_toN {b : Nat} {n : Int} (h : WhB b n) (h1 : n.natAbs ≤ 1000000000) (w : World) : (convert 33 3 (.float .f64 b)).run Tryz.prog w = .ok (.int .i64 n) w := by
  refine run_convert_float_int w 33 3 .f64 .i64 b n (by rw [Tryz.underlying33]; rfl) Tryz.underlying3 ?_
  unfold floatToIntVal
  have e : (FloatKind.f64.decode b).toInt .zero = some n := h.toInt
  rw [e]
  simp only
  rw [if_pos]
  have e1 : IntKind.i64.min = -9223372036854775808 := by decide
  have e2 : IntKind.i64.max = 9223372036854775807 := by decide
  rw [e1, e2]
  omega
/-- the number one. -/
theorem one_fin : FinB 4607182418800017408 ∧ rv 4607182418800017408 = (T1 : Int) := by
  have h := wh_int (n := 1) (by decide)
  have e : intB 1 = 4607182418800017408 := by decide +kernel
  rw [e] at h
  exact ⟨h.1, by rw [h.2, Int.one_mul]⟩
theorem zero_wh : WhB 0 0 := ⟨zero_fin.1, by rw [zero_fin.2, Int.zero_mul]⟩
/-- the floor of a number from 0 up to M. -/
theorem floor_wh {k M : Nat} (h : FinB k) (h0 : 0 ≤ rv k) (h1 : rv k ≤ (M : Int) * (T1 : Int)) :
    ∃ n : Nat, n ≤ M ∧ WhB (wholeB .down k) n ∧ (n : Int) * (T1 : Int) ≤ rv k ∧ rv k - (n : Int) * (T1 : Int) ≤ (T1 : Int) := by
  have hT := T1_pos
  have hv : (valR (magB k) : Int) = rv k := by
    cases e : negB k
    · rw [rv_pos e]
    · rw [rv_neg e] at h0 ⊢; omega
  have hz : negB k = true → valR (magB k) = 0 := fun e => by rw [rv_neg e] at h0; omega
  obtain ⟨f1, f2, f3⟩ := whole_fin .down h
  have hN : wholeN .down k = valR (magB k) / T1 := by
    unfold wholeN cutW
    rw [← T1_pow]
    cases e : negB k
    · rfl
    · rw [hz e, Nat.zero_mod, Nat.zero_div]; rfl
  have hdm := Nat.div_add_mod (valR (magB k)) T1
  have hlt := Nat.mod_lt (valR (magB k)) hT
  rw [hN] at f3
  generalize hq : valR (magB k) / T1 = n at *
  have e1 : (n : Int) * (T1 : Int) = ((T1 * n : Nat) : Int) := by rw [Int.natCast_mul, Int.mul_comm]
  refine ⟨n, ?_, ⟨f1, ?_⟩, by omega, by omega⟩
  · rw [← hq]
    have : valR (magB k) ≤ M * T1 := by
      have : ((M * T1 : Nat) : Int) = (M : Int) * (T1 : Int) := Int.natCast_mul _ _
      omega
    have := Nat.div_le_div_right (c := T1) this
    rwa [Nat.mul_div_cancel _ hT] at this
  · cases e : negB k
    · rw [rv_pos (by rw [f2]; exact e), f3, e1, Nat.mul_comm]
    · have h9 := hz e
      rw [rv_neg (by rw [f2]; exact e), f3]
      have : n = 0 := by rw [← hq, h9, Nat.zero_div]
      rw [this]
      simp
end Go.Proofs.YtelakcjbknbehaaGreat
namespace Go.Proofs.YtelakcjbknbehaaGreat
open Go.RowKit Go.Lib Ieee

set_option maxRecDepth 100000 in
set_option maxHeartbeats 4000000 in
/-- the part of Quantile behind the sort, one way. -/
theorem quant_any (w : World) {g o n cp m low hi : Nat} {l : List Nat} {q k part a b z zl : Nat} (hl : l.length = n) (hm : n = m + 1) (hn2 : n ≤ 1000000) (hF : Fl w (some ⟨g, o, none⟩) l) (hc : ∀ x ∈ l, CanB x)
    (hq0 : (FloatKind.f64.format.order q 0 == some .gt || FloatKind.f64.format.order q 0 == some .eq) = true)
    (hq1 : (FloatKind.f64.format.order q 4607182418800017408 == some .lt || FloatKind.f64.format.order q 4607182418800017408 == some .eq) = true)
    (hlast : (sortK l)[m]? = some zl) (hzn : isNaNB zl = false)
    (hk : floatBits .mul .f64 q (intB m) = some k) (hkn : isNaNB k = false) (hlow : WhB (wholeB .down k) low) (hlm : low ≤ m)
    (hpart : floatBits .sub .f64 k (intB low) = some part) (ha : (sortK l)[low]? = some a) (hhi : hi = min (low + 1) m) (hb : (sortK l)[hi]? = some b)
    (hz : (a = b ∧ z = a) ∨ (a ≠ b ∧ (FloatKind.f64.format.order part 0 == some .eq) = true ∧ z = a) ∨
      (a ≠ b ∧ (FloatKind.f64.format.order part 0 == some .eq) = false ∧ ∃ d p, floatBits .sub .f64 b a = some d ∧ floatBits .mul .f64 part d = some p ∧ floatBits .add .f64 a p = some z ∧ isNaNB z = false)) :
    Calls Tryz.prog 76 #[.slice (some ⟨g, o, none⟩) n cp, .float .f64 q] w fun e w' => e = .returned (.tuple #[.float .f64 z, .int .i64 0]) ∧ Chg [] w w' := by
  have HS := Lib.hid (fsort_any w (cp := cp) hl (by omega) hn2 hF hc)
  have hn0 : ((n : Int) == 0) = false := beq_false_of_ne (by omega)
  have hcv := fun w => run_fromI (m : Int) w
  have rk := fun w => run_float_arith (P := Tryz.prog) w .mul 33 .f64 q (intB m) k hk
  have rl := fun w => run_toN hlow (by omega) w
  have hcl := fun w => run_fromI (low : Int) w
  have rp := fun w => run_float_arith (P := Tryz.prog) w .sub 33 .f64 k (intB low) part hpart
  have HFL := Lib.hid (fun w => floor_any k w hkn)
  have hor := order_fmt zl
  rw [hzn] at hor
  have hw1 : IntKind.i64.wrap ((n : Int) - 1) = (m : Int) := by rw [IntKind.wrap_i64]; omega
  have hw2 : wrap64 ((n : Int) - 1) = (m : Int) := by unfold wrap64; omega
  have lm : (m : Int) < (n : Int) := by omega
  have ll : (low : Int) < (n : Int) := by omega
  have lh : (hi : Int) < (n : Int) := by omega
  have pm : (0 : Int) ≤ (m : Int) := by omega
  have pl : (0 : Int) ≤ (low : Int) := by omega
  have ph : (0 : Int) ≤ (hi : Int) := by omega
  have hlo1 : wrap64 ((low : Int) + 1) = ((low + 1 : Nat) : Int) := by unfold wrap64; omega
  have hmin : min ((low : Int) + 1) (m : Int) = (hi : Int) := by omega
  have HL := Lib.hid (And.intro hlast (And.intro ha hb))
  have HC : Hid (CanB a ∧ CanB b) := Lib.hid ⟨hc _ ((sortK_perm l).mem_iff.1 (List.mem_of_getElem? ha)), hc _ ((sortK_perm l).mem_iff.1 (List.mem_of_getElem? hb))⟩
  have HZ := Lib.hid hz
  clear hl hm hF hc hk hkn hlow hpart hlast ha hhi hb hz hzn
  generalize intB m = M at *
  generalize intB low = LW at *
  generalize wholeB .down k = kf at *
  go_enter Tryz.func76, Tryz.ntmps76
  go_wp2_with fail
  refine HS.out.mono ?_
  rintro e w1 ⟨g1, c1, rfl, hg1, hc1, k1, hF1⟩
  have cget : ∀ (w' : World) (j v : Nat), (sortK l)[j]? = some v → Fl w' (some ⟨g1, 0, none⟩) (sortK l) → w'.cell? ⟨g1, j, none⟩ = some (.float .f64 v) := fun w' j v h hf => by
    obtain ⟨hj, e⟩ := List.getElem?_eq_some_iff.1 h
    have := fl_at hf j hj
    rw [Nat.zero_add, e] at this
    exact this
  have cm := cget w1 m zl HL.out.1 hF1
  have ca := cget w1 low a HL.out.2.1 hF1
  have cb := cget w1 hi b HL.out.2.2 hF1
  have K1 := Lib.hid k1
  clear hF1 cget k1 HS
  go_wp2_with fail
  go_region_held3 (fun wx => wx.cell? ⟨g1, m, none⟩ = some (.float .f64 zl)) (go_keep) (first | fail)
  go_wp2_with fail
  have K2 : Hid (Chg [] w w1.drew) := Lib.hid K1.out.drew
  have ca2 : w1.drew.cell? ⟨g1, low, none⟩ = some (.float .f64 a) := ca
  have cb2 : w1.drew.cell? ⟨g1, hi, none⟩ = some (.float .f64 b) := cb
  clear K1 cm ca cb
  generalize w1.drew = w2 at *
  refine (HFL.out _).mono ?_
  rintro e w3 ⟨rfl, rfl⟩
  go_wp2_with fail
  have hsame : ∀ w, Calls Tryz.prog 150 #[.float .f64 a, .float .f64 b] w fun e w' => e = .returned (.bool (a == b)) ∧ w = w' := fun w => by
    have := same_any a b w
    rw [canB_of HC.out.1, canB_of HC.out.2] at this
    exact this
  rcases HZ.out with ⟨hab, rfl⟩ | ⟨hab, hp0, rfl⟩ | ⟨hab, hp0, d, p, hd, hp, hx, hxn⟩
  · have HSA := Lib.hid hsame
    rw [show (z == b) = true by rw [hab]; exact beq_self_eq_true b] at HSA
    clear hsame hab HZ
    have ca3 : w2.drew.cell? ⟨g1, low, none⟩ = some (.float .f64 z) := ca2
    have cb3 : w2.drew.cell? ⟨g1, hi, none⟩ = some (.float .f64 b) := cb2
    go_still_tail 8, (by kernel_rfl)
    change wpList _ _ _ _ _ w2.drew
    go_wp2_with fail
    refine (HSA.out _).mono ?_
    rintro e w5 ⟨rfl, rfl⟩
    go_wp2_with fail
    go_ret2
    exact ⟨rfl, K2.out.drew⟩
  · have HSA := Lib.hid hsame
    rw [show (z == b) = false from beq_eq_false_iff_ne.2 hab] at HSA
    clear hsame hab HZ
    go_region_held3 (fun wx => wx.cell? ⟨g1, low, none⟩ = some (.float .f64 z) ∧ wx.cell? ⟨g1, hi, none⟩ = some (.float .f64 b)) (go_keep)
      (first | (go_at_call 150; refine (HSA.out _).mono ?_; rintro e w5 ⟨rfl, rfl⟩))
    go_wp2_with fail
    go_ret2
    exact ⟨rfl, K2.out.drew⟩
  · have HSA := Lib.hid hsame
    rw [show (a == b) = false from beq_eq_false_iff_ne.2 hab] at HSA
    have rd := fun w => run_float_arith (P := Tryz.prog) w .sub 33 .f64 b a d hd
    have rm := fun w => run_float_arith (P := Tryz.prog) w .mul 33 .f64 part d p hp
    have rx := fun w => run_float_arith (P := Tryz.prog) w .add 33 .f64 a p z hx
    have hoz := order_fmt z
    rw [hxn] at hoz
    clear hsame hab HZ hd hp hx hxn
    go_region_held3 (fun wx => wx.cell? ⟨g1, low, none⟩ = some (.float .f64 a) ∧ wx.cell? ⟨g1, hi, none⟩ = some (.float .f64 b)) (go_keep)
      (first | (go_at_call 150; refine (HSA.out _).mono ?_; rintro e w5 ⟨rfl, rfl⟩))
    go_wp2_with fail
    have ca3 : w2.drew.cell? ⟨g1, low, none⟩ = some (.float .f64 a) := ca2
    have cb3 : w2.drew.cell? ⟨g1, hi, none⟩ = some (.float .f64 b) := cb2
    go_region_held3 (fun wx => wx.cell? ⟨g1, low, none⟩ = some (.float .f64 a) ∧ wx.cell? ⟨g1, hi, none⟩ = some (.float .f64 b)) (go_keep) (first | fail)
    go_wp2_with fail
    go_ret2
    exact ⟨rfl, K2.out.drew.drew⟩
end Go.Proofs.YtelakcjbknbehaaGreat
namespace Go.Proofs.YtelakcjbknbehaaGreat
open Go.RowKit Go.Lib Ieee

theorem key_rv {x y : Nat} (hx : FinB x) (hy : FinB y) (h : keyB x ≤ keyB y) : rv x ≤ rv y := by
  have hx2 := hx.2
  have hy2 := hy.2
  have hx1 := hx.1
  have hy1 := hy.1
  unfold keyB at h
  unfold magB at hx2 hy2
  have ex : negB x = decide (9223372036854775808 ≤ x) := rfl
  have ey : negB y = decide (9223372036854775808 ≤ y) := rfl
  by_cases cx : x < 9223372036854775808
  · have nx : negB x = false := by rw [ex]; exact decide_eq_false (by omega)
    by_cases cy : y < 9223372036854775808
    · have ny : negB y = false := by rw [ey]; exact decide_eq_false (by omega)
      rw [if_pos cx, if_pos cy] at h
      rw [rv_pos nx, rv_pos ny]
      have := valR_mono (show magB x ≤ magB y by unfold magB; omega)
      omega
    · rw [if_pos cx, if_neg cy] at h
      omega
  · have nx : negB x = true := by rw [ex]; exact decide_eq_true (by omega)
    by_cases cy : y < 9223372036854775808
    · have ny : negB y = false := by rw [ey]; exact decide_eq_false (by omega)
      rw [rv_neg nx, rv_pos ny]
      omega
    · have ny : negB y = true := by rw [ey]; exact decide_eq_true (by omega)
      rw [if_neg cx, if_neg cy] at h
      rw [rv_neg nx, rv_neg ny]
      have := valR_mono (show magB y ≤ magB x by unfold magB; omega)
      omega
theorem mostK_ge (l : List Nat) (s : Nat) : keyB s ≤ keyB (l.foldl mostK s) ∧ ∀ x ∈ l, keyB x ≤ keyB (l.foldl mostK s) := by
  induction l generalizing s with
  | nil => exact ⟨Nat.le_refl _, fun x h => by cases h⟩
  | cons y l ih =>
    rw [List.foldl_cons]
    obtain ⟨h1, h2⟩ := ih (mostK s y)
    have h3 : keyB s ≤ keyB (mostK s y) ∧ keyB y ≤ keyB (mostK s y) := by unfold mostK; split <;> omega
    refine ⟨by omega, fun x hx => ?_⟩
    rcases List.mem_cons.1 hx with rfl | hx
    · omega
    · exact h2 x hx
theorem lessK_le (l : List Nat) (s : Nat) : keyB (l.foldl lessK s) ≤ keyB s ∧ ∀ x ∈ l, keyB (l.foldl lessK s) ≤ keyB x := by
  induction l generalizing s with
  | nil => exact ⟨Nat.le_refl _, fun x h => by cases h⟩
  | cons y l ih =>
    rw [List.foldl_cons]
    obtain ⟨h1, h2⟩ := ih (lessK s y)
    have h3 : keyB (lessK s y) ≤ keyB s ∧ keyB (lessK s y) ≤ keyB y := by unfold lessK; split <;> omega
    refine ⟨by omega, fun x hx => ?_⟩
    rcases List.mem_cons.1 hx with rfl | hx
    · omega
    · exact h2 x hx
theorem lessK_mem (l : List Nat) (s : Nat) : l.foldl lessK s = s ∨ l.foldl lessK s ∈ l := by
  induction l generalizing s with
  | nil => exact Or.inl rfl
  | cons x l ih =>
    rw [List.foldl_cons]
    rcases ih (lessK s x) with h | h
    · rw [h]
      unfold lessK
      split
      · exact Or.inr List.mem_cons_self
      · exact Or.inl rfl
    · exact Or.inr (List.mem_cons_of_mem _ h)
theorem maxB_is {l : List Nat} (hn : nanB ∉ l) (hl : l ≠ []) : maxB l ∈ l ∧ ∀ x ∈ l, keyB x ≤ keyB (maxB l) := by
  obtain ⟨y, l, rfl⟩ := List.exists_cons_of_ne_nil hl
  unfold maxB
  rw [if_neg hn]
  refine ⟨?_, (mostK_ge _ _).2⟩
  rcases mostK_mem (y :: l) y with h | h
  · rw [show (y :: l).headD 0 = y from rfl, h]; exact List.mem_cons_self
  · exact h
theorem minB_is {l : List Nat} (hn : nanB ∉ l) (hl : l ≠ []) : minB l ∈ l ∧ ∀ x ∈ l, keyB (minB l) ≤ keyB x := by
  obtain ⟨y, l, rfl⟩ := List.exists_cons_of_ne_nil hl
  unfold minB
  rw [if_neg hn]
  refine ⟨?_, (lessK_le _ _).2⟩
  rcases lessK_mem (y :: l) y with h | h
  · rw [show (y :: l).headD 0 = y from rfl, h]; exact List.mem_cons_self
  · exact h
/-- a list of whole numbers, none greater than a million. -/
def WhL (l : List Nat) : Prop := ∀ x ∈ l, WhB x (toI x) ∧ (toI x).natAbs ≤ 1000000
/-- their sum. -/
def sumL : List Nat → Int
  | [] => 0
  | x :: l => toI x + sumL l
theorem WhL.nan {l : List Nat} (h : WhL l) : nanB ∉ l := fun hm => by
  have := fin_not_nan (h _ hm).1.1
  revert this
  decide
theorem canB_fin {z : Nat} (h : FinB z) : canB z = z := by unfold canB; rw [if_neg (by rw [fin_not_nan h]; decide)]
theorem opC_add {a x : Nat} {m k : Int} (ha : WhB a m) (hx : WhB x k) (h : (m + k).natAbs ≤ 9007199254740992) : WhB (opC .add a x) (m + k) := by
  obtain ⟨z, e, hz⟩ := wh_add ha hx h
  have e2 : floatBits .add .f64 a x = some z := e
  rw [opC_some e2, canB_fin hz.1]
  exact hz
theorem opC_sub {a x : Nat} {m k : Int} (ha : WhB a m) (hx : WhB x k) (h : (m - k).natAbs ≤ 9007199254740992) : WhB (opC .sub a x) (m - k) := by
  obtain ⟨z, e, hz⟩ := wh_sub ha hx h
  have e2 : floatBits .sub .f64 a x = some z := e
  rw [opC_some e2, canB_fin hz.1]
  exact hz
theorem stepC_wh {p : Nat × Nat} {x : Nat} {A X : Int} (ha : WhB p.1 A) (hb : WhB p.2 0) (hx : WhB x X) (h1 : A.natAbs ≤ 4000000000000) (h2 : X.natAbs ≤ 1000000) : WhB (stepC p x).1 (A + X) ∧ WhB (stepC p x).2 0 := by
  have ht := opC_add ha hx (by omega)
  refine ⟨by rw [stepC_1]; exact ht, ?_⟩
  cases hg : geA p.1 x
  · rw [stepC_lt hg]
    have d1 := opC_sub hx ht (by omega)
    have d2 := opC_add d1 ha (by omega)
    have d3 := opC_add hb d2 (by omega)
    rw [show (0 : Int) + (X - (A + X) + A) = 0 by omega] at d3
    exact d3
  · rw [stepC_ge hg]
    have d1 := opC_sub ha ht (by omega)
    have d2 := opC_add d1 hx (by omega)
    have d3 := opC_add hb d2 (by omega)
    rw [show (0 : Int) + (A - (A + X) + X) = 0 by omega] at d3
    exact d3
theorem foldC_wh (l : List Nat) (h : WhL l) (p : Nat × Nat) (A : Int) (ha : WhB p.1 A) (hb : WhB p.2 0) (h1 : A.natAbs + 1000000 * l.length ≤ 4000000000000) : WhB (l.foldl stepC p).1 (A + sumL l) ∧ WhB (l.foldl stepC p).2 0 := by
  induction l generalizing p A with
  | nil => exact ⟨by show WhB p.1 (A + 0); rw [Int.add_zero]; exact ha, hb⟩
  | cons x l ih =>
    have hx := h x List.mem_cons_self
    have hl : WhL l := fun y hy => h y (List.mem_cons_of_mem _ hy)
    rw [List.length_cons] at h1
    obtain ⟨s1, s2⟩ := stepC_wh ha hb hx.1 (by omega) hx.2
    have := ih hl (stepC p x) (A + toI x) s1 s2 (by omega)
    rw [Int.add_assoc] at this
    exact this
theorem cls5 {x : Nat} (hx : x < 18446744073709551616) (h : clsB x = 5) : x = 9223372036854775808 := by
  unfold clsB at h
  by_cases hn : isNaNB x = true
  · rw [if_pos hn] at h; cases h
  · rw [if_neg hn] at h
    simp only at h
    by_cases hz : magB x = 0
    · rw [if_pos hz] at h
      unfold magB at hz
      by_cases c : x < 9223372036854775808
      · rw [if_pos c] at h; cases h
      · omega
    · rw [if_neg hz] at h
      exfalso
      revert h
      split <;> split <;> first | decide | (split <;> decide)
theorem neg0_wh : WhB 9223372036854775808 0 := by
  refine ⟨by unfold FinB; decide, ?_⟩
  rw [Int.zero_mul]
  decide
theorem sumL_zero {l : List Nat} (h : ∀ x ∈ l, toI x = 0) : sumL l = 0 := by
  induction l with
  | nil => rfl
  | cons x l ih =>
    show toI x + sumL l = 0
    rw [h x List.mem_cons_self, ih (fun y hy => h y (List.mem_cons_of_mem _ hy))]
    rfl
theorem sumC_wh {l : List Nat} (h : WhL l) (hl : l.length ≤ 1000000) : WhB (sumC l) (sumL l) := by
  unfold sumC
  by_cases hn : negC l = true
  · rw [if_pos hn]
    have hz : sumL l = 0 := sumL_zero fun x hx => by
      unfold negC at hn
      have := List.all_eq_true.1 (Bool.and_eq_true_iff.1 hn).2 x hx
      have e := cls5 (h x hx).1.lt (by simpa using this)
      rw [e, neg0_wh.toI]
    rw [hz]
    exact neg0_wh
  · rw [if_neg hn]
    obtain ⟨s1, s2⟩ := foldC_wh l h (0, 0) 0 zero_wh zero_wh (by omega)
    simp only []
    rw [if_neg (by rw [fin_not_nan s2.1]; decide)]
    rw [Int.zero_add] at s1
    have hs : (sumL l).natAbs ≤ 1000000 * l.length := by
      clear s1 s2 hn hl
      induction l with
      | nil => decide
      | cons x l ih =>
        have := ih (fun y hy => h y (List.mem_cons_of_mem _ hy))
        have h2 := (h x List.mem_cons_self).2
        show (toI x + sumL l).natAbs ≤ 1000000 * (l.length + 1)
        omega
    have := opC_add s1 s2 (by omega)
    rw [Int.add_zero] at this
    exact this
theorem sumL_bound {l : List Nat} {A B : Int} (h : ∀ x ∈ l, A ≤ toI x ∧ toI x ≤ B) : A * l.length ≤ sumL l ∧ sumL l ≤ B * l.length := by
  induction l with
  | nil => simp [sumL]
  | cons x l ih =>
    have h1 := ih (fun y hy => h y (List.mem_cons_of_mem _ hy))
    have h2 := h x List.mem_cons_self
    have e : ((x :: l).length : Int) = (l.length : Int) + 1 := by rw [List.length_cons]; rfl
    rw [e, Int.mul_add, Int.mul_add, Int.mul_one, Int.mul_one]
    show _ ≤ toI x + sumL l ∧ toI x + sumL l ≤ _
    omega
theorem wh_le {x y : Nat} {m k : Int} (hx : WhB x m) (hy : WhB y k) : rv x ≤ rv y ↔ m ≤ k := by
  rw [hx.2, hy.2]
  have hT := T1_posI
  constructor
  · intro h; exact Int.le_of_mul_le_mul_right h hT
  · intro h; exact Int.mul_le_mul_of_nonneg_right h (Int.le_of_lt hT)
/-- the mean of whole numbers lies between the least and the greatest. -/
theorem meanC_wh {l : List Nat} (h : WhL l) (hl : l ≠ []) (hn : l.length ≤ 1000000) : FinB (meanC l) ∧ rv (minB l) ≤ rv (meanC l) ∧ rv (meanC l) ≤ rv (maxB l) := by
  obtain ⟨m1, m2⟩ := minB_is h.nan hl
  obtain ⟨x1, x2⟩ := maxB_is h.nan hl
  have wm := (h _ m1).1
  have wx := (h _ x1).1
  have hpos : 0 < l.length := List.length_pos_iff.2 hl
  have hb : ∀ x ∈ l, toI (minB l) ≤ toI x ∧ toI x ≤ toI (maxB l) := fun x hx =>
    ⟨(wh_le wm (h x hx).1).1 (key_rv wm.1 (h x hx).1.1 (m2 x hx)), (wh_le (h x hx).1 wx).1 (key_rv (h x hx).1.1 wx.1 (x2 x hx))⟩
  obtain ⟨s1, s2⟩ := sumL_bound hb
  have ws := sumC_wh h hn
  have hS : (sumL l).natAbs < 1099511627776 := by
    have a1 := (h _ m1).2
    have a2 := (h _ x1).2
    have b1 : -1000000 * (l.length : Int) ≤ toI (minB l) * (l.length : Int) := Int.mul_le_mul_of_nonneg_right (by omega) (by omega)
    have b2 : toI (maxB l) * (l.length : Int) ≤ 1000000 * (l.length : Int) := Int.mul_le_mul_of_nonneg_right (by omega) (by omega)
    omega
  obtain ⟨z, e, hf, h1, h2⟩ := div_wh ws (wh_int (n := (l.length : Int)) (by omega)) wm wx hS hpos (by omega) s1 s2
  have e2 : floatBits .quo .f64 (sumC l) (intB l.length) = some z := e
  unfold meanC
  rw [opC_some e2, canB_fin hf]
  exact ⟨hf, h1, h2⟩
end Go.Proofs.YtelakcjbknbehaaGreat
