/- Plain: doubles as whole numbers of least units. No program in this text. -/
import Ieee.Arith
namespace Go.Proofs.YtfdkafmomkkapaaGreatDoor
open Ieee

/-- 'n / 2 ^ d' as a whole number, without the bound on the digits. -/
def cutW (way : Toward) (neg : Bool) (n d : Nat) : Nat :=
  n / 2 ^ d + (match way with
    | .even => decide (2 ^ d < 2 * (n % 2 ^ d)) || (2 ^ d == 2 * (n % 2 ^ d) && n / 2 ^ d % 2 == 1)
    | .down => neg && n % 2 ^ d != 0
    | .up => !neg && n % 2 ^ d != 0
    | .zero => false).toNat
theorem cut_eq (way : Toward) (neg : Bool) (n d : Nat) : way.cut neg n d = cutW way neg n d := by
  unfold Toward.cut cutW
  simp only [Nat.one_shiftLeft]
  by_cases h : d ≤ n.log2 + 2
  · rw [Nat.min_eq_left h]
    cases way <;> rfl
  · rw [Nat.min_eq_right (by omega)]
    have h1 : n < 2 ^ (n.log2 + 1) := Nat.lt_log2_self
    have h2 : 2 ^ (n.log2 + 2) = 2 * 2 ^ (n.log2 + 1) := by rw [Nat.pow_succ]; omega
    have h3 : 2 ^ (n.log2 + 2) ≤ 2 ^ d := Nat.pow_le_pow_right (by decide) (by omega)
    have e1 : n / 2 ^ (n.log2 + 2) = 0 := Nat.div_eq_of_lt (by omega)
    have e2 : n / 2 ^ d = 0 := Nat.div_eq_of_lt (by omega)
    have e3 : n % 2 ^ (n.log2 + 2) = n := Nat.mod_eq_of_lt (by omega)
    have e4 : n % 2 ^ d = n := Nat.mod_eq_of_lt (by omega)
    rw [e1, e2, e3, e4]
    cases way with
    | even =>
      have c1 : ¬ 2 ^ (n.log2 + 2) < 2 * n := by omega
      have c2 : ¬ 2 ^ d < 2 * n := by omega
      simp [c1, c2]
    | down => rfl
    | up => rfl
    | zero => rfl
theorem cutW_shift (way : Toward) (neg : Bool) (n d j : Nat) : cutW way neg (n * 2 ^ j) (d + j) = cutW way neg n d := by
  have hp : 0 < 2 ^ j := Nat.pow_pos (by decide)
  unfold cutW
  rw [Nat.pow_add, Nat.mul_div_mul_right _ _ hp, Nat.mul_mod_mul_right]
  congr 2
  have a1 : (2 ^ d * 2 ^ j < 2 * (n % 2 ^ d * 2 ^ j)) ↔ (2 ^ d < 2 * (n % 2 ^ d)) := by
    rw [← Nat.mul_assoc]; exact Nat.mul_lt_mul_right hp
  have a2 : (2 ^ d * 2 ^ j == 2 * (n % 2 ^ d * 2 ^ j)) = (2 ^ d == 2 * (n % 2 ^ d)) := by
    rw [← Nat.mul_assoc, Bool.eq_iff_iff, beq_iff_eq, beq_iff_eq]; exact Nat.mul_left_inj (by omega)
  have a3 : (n % 2 ^ d * 2 ^ j != 0) = (n % 2 ^ d != 0) := by
    rw [Bool.eq_iff_iff, bne_iff_ne, bne_iff_ne, Ne, Ne, Nat.mul_eq_zero]; omega
  cases way with
  | even => simp only [a1, a2]
  | down => simp only [a3]
  | up => simp only [a3]
  | zero => rfl
theorem cutW_zero (way : Toward) (neg : Bool) (n : Nat) : cutW way neg n 0 = n := by
  unfold cutW
  rw [Nat.pow_zero, Nat.div_one, Nat.mod_one]
  cases way <;> simp
theorem cutW_exact (way : Toward) (neg : Bool) (n j : Nat) : cutW way neg (n * 2 ^ j) j = n := by
  have := cutW_shift way neg n 0 j
  rw [Nat.zero_add, cutW_zero] at this
  exact this
theorem cutW_split (way : Toward) (neg : Bool) (m a b c : Nat) (h : c = a + b) : cutW way neg (m * 2 ^ c) b = m * 2 ^ a := by
  rw [h, Nat.pow_add, ← Nat.mul_assoc, cutW_exact]

/-- 'm * 2 ^ i' in units of 2 ^ -1074. -/
def units (m : Nat) (i : Int) : Nat := m * 2 ^ (i + 1074).toNat
/-- the magnitude at a rung, in units. -/
def valR (r : Nat) : Nat := if r < 4503599627370496 then r else (4503599627370496 + r % 4503599627370496) * 2 ^ (r / 4503599627370496 - 1)
/-- the rung nearest to so many units. -/
def rungOf (N : Nat) : Nat := if N = 0 then 0 else min ((N.log2 - 52) * 4503599627370496 + cutW .even false N (N.log2 - 52)) 9218868437227405312

theorem log2_mul (m j : Nat) (h : m ≠ 0) : (m * 2 ^ j).log2 = m.log2 + j := by
  have hp : 0 < 2 ^ j := Nat.pow_pos (by decide)
  rw [Nat.log2_eq_iff (by intro e; rcases Nat.mul_eq_zero.1 e with e | e <;> omega)]
  have h1 := Nat.log2_self_le h
  have h2 := @Nat.lt_log2_self m
  refine ⟨by rw [Nat.pow_add]; exact Nat.mul_le_mul_right _ h1, ?_⟩
  rw [show m.log2 + j + 1 = m.log2 + 1 + j by omega, Nat.pow_add]
  exact Nat.mul_lt_mul_of_pos_right h2 hp
theorem cutW_even (neg : Bool) (n d : Nat) : cutW .even neg n d = cutW .even false n d := rfl
theorem nearest_units (s : Bool) (m : Nat) (i : Int) (hi : -1074 ≤ i) : double.nearest s m i = double.word s (rungOf (units m i)) := by
  unfold Format.nearest rungOf
  by_cases hm : m = 0
  · subst hm; rw [if_pos rfl, if_pos (by simp [units])]
  · have hp : 0 < 2 ^ (i + 1074).toNat := Nat.pow_pos (by decide)
    have hu : units m i ≠ 0 := by unfold units; intro e; rcases Nat.mul_eq_zero.1 e with e | e <;> omega
    rw [if_neg hm, if_neg hu]
    have e1 : double.leastPlace = -1074 := by decide
    have e2 : double.binade = 4503599627370496 := by decide
    have e3 : double.infRung = 9218868437227405312 := by decide
    have e4 : double.fractionBits = 52 := rfl
    have hL : (units m i).log2 = m.log2 + (i + 1074).toNat := log2_mul _ _ hm
    simp only [e1, e2, e3, e4, cut_eq]
    obtain ⟨L, hLL⟩ : ∃ L, m.log2 = L := ⟨_, rfl⟩
    obtain ⟨j, hj⟩ : ∃ j : Nat, i + 1074 = j := ⟨(i + 1074).toNat, by omega⟩
    have hi' : i = (j : Int) - 1074 := by omega
    rw [hL, hLL]
    have ej : (i + 1074).toNat = j := by omega
    have k1 : (max (i + (L : Int) - ((52 : Nat) : Int)) (-1074) - -1074).toNat = L + j - 52 := by omega
    rw [ej, k1]
    have key : cutW .even s (m <<< (i - max (i + (L : Int) - ((52 : Nat) : Int)) (-1074)).toNat) (max (i + (L : Int) - ((52 : Nat) : Int)) (-1074) - i).toNat = cutW .even false (units m i) (L + j - 52) := by
      unfold units
      rw [ej, Nat.shiftLeft_eq]
      by_cases hc : 52 ≤ L
      · have k2 : (i - max (i + (L : Int) - ((52 : Nat) : Int)) (-1074)).toNat = 0 := by omega
        have k3 : (max (i + (L : Int) - ((52 : Nat) : Int)) (-1074) - i).toNat = L - 52 := by omega
        have k4 : L + j - 52 = (L - 52) + j := by omega
        rw [k2, k3, k4, cutW_shift, Nat.pow_zero, Nat.mul_one]
        rfl
      · have k3 : (max (i + (L : Int) - ((52 : Nat) : Int)) (-1074) - i).toNat = 0 := by omega
        have k5 : (i - max (i + (L : Int) - ((52 : Nat) : Int)) (-1074)).toNat = j - (L + j - 52) := by omega
        rw [k3, k5, cutW_zero]
        have := cutW_exact .even false (m * 2 ^ (j - (L + j - 52))) (L + j - 52)
        rw [Nat.mul_assoc, ← Nat.pow_add, show j - (L + j - 52) + (L + j - 52) = j by omega] at this
        rw [this]
    rw [key]
theorem integral_units (way : Toward) (s : Bool) (m : Nat) (i : Int) (hi : -1074 ≤ i) : (Datum.number s m i).integral way = .number s (cutW way s (units m i) 1074) 0 := by
  unfold Datum.integral
  simp only
  congr 1
  rw [cut_eq, Nat.shiftLeft_eq]
  unfold units
  by_cases h : 0 ≤ i
  · rw [show (-i).toNat = 0 by omega, cutW_zero]
    exact (cutW_split way s m _ _ _ (by omega)).symm
  · rw [show i.toNat = 0 by omega, Nat.pow_zero, Nat.mul_one]
    have := cutW_shift way s m (-i).toNat (i + 1074).toNat
    rw [show (-i).toNat + (i + 1074).toNat = 1074 by omega] at this
    exact this.symm

/-! rungs and units -/
theorem rung_rep (W j : Nat) (hW : W < 9007199254740992) (h0 : W ≠ 0) (hj : W.log2 + j ≤ 2097) : rungOf (W * 2 ^ j) < 9218868437227405312 ∧ valR (rungOf (W * 2 ^ j)) = W * 2 ^ j := by
  have hl := log2_mul W j h0
  have hp : 0 < 2 ^ j := Nat.pow_pos (by decide)
  have hN : W * 2 ^ j ≠ 0 := by intro e; rcases Nat.mul_eq_zero.1 e with e | e <;> omega
  have hW2 : W.log2 < 53 := (Nat.log2_lt h0).2 (by simpa using hW)
  unfold rungOf
  rw [if_neg hN, hl]
  by_cases hc : W.log2 + j ≤ 52
  · have hb : W * 2 ^ j < 2 ^ 53 := (Nat.log2_lt hN).1 (by omega)
    rw [show W.log2 + j - 52 = 0 by omega, cutW_zero, Nat.zero_mul, Nat.zero_add]
    generalize W * 2 ^ j = N at *
    rw [show (2 : Nat) ^ 53 = 9007199254740992 by decide] at hb
    rw [Nat.min_eq_left (by omega)]
    refine ⟨by omega, ?_⟩
    unfold valR
    by_cases h1 : N < 4503599627370496
    · rw [if_pos h1]
    · rw [if_neg h1, show N / 4503599627370496 - 1 = 0 by omega, Nat.pow_zero]; omega
  · obtain ⟨k, hk⟩ : ∃ k, W.log2 + j - 52 = k := ⟨_, rfl⟩
    obtain ⟨t, ht⟩ : ∃ t, j = t + k := ⟨j - k, by omega⟩
    have e1 : W * 2 ^ j = (W * 2 ^ t) * 2 ^ k := by rw [ht, Nat.pow_add, Nat.mul_assoc]
    have hlt := log2_mul W t h0
    have hNt : W * 2 ^ t ≠ 0 := by intro e; rw [e, Nat.zero_mul] at e1; exact hN e1
    have hb1 : W * 2 ^ t < 2 ^ 53 := (Nat.log2_lt hNt).1 (by omega)
    have hb2 : 2 ^ 52 ≤ W * 2 ^ t := (Nat.le_log2 hNt).1 (by omega)
    rw [hk, e1, cutW_exact]
    generalize W * 2 ^ t = M at *
    rw [show (2 : Nat) ^ 53 = 9007199254740992 by decide] at hb1
    rw [show (2 : Nat) ^ 52 = 4503599627370496 by decide] at hb2
    rw [Nat.min_eq_left (by omega)]
    refine ⟨by omega, ?_⟩
    unfold valR
    rw [if_neg (by omega), show (k * 4503599627370496 + M) / 4503599627370496 - 1 = k by omega, show 4503599627370496 + (k * 4503599627370496 + M) % 4503599627370496 = M by omega]
theorem valR_form (r : Nat) (h : r < 9218868437227405312) : ∃ W j, W < 9007199254740992 ∧ valR r = W * 2 ^ j ∧ j ≤ 2045 ∧ (j = 0 ∨ 4503599627370496 ≤ W) := by
  unfold valR
  by_cases h1 : r < 4503599627370496
  · exact ⟨r, 0, by omega, by rw [if_pos h1, Nat.pow_zero, Nat.mul_one], by omega, Or.inl rfl⟩
  · exact ⟨4503599627370496 + r % 4503599627370496, r / 4503599627370496 - 1, by omega, by rw [if_neg h1], by omega, Or.inr (by omega)⟩
theorem rungOf_valR (r : Nat) (h : r < 9218868437227405312) : rungOf (valR r) = r := by
  unfold valR
  by_cases h1 : r < 4503599627370496
  · rw [if_pos h1]
    unfold rungOf
    by_cases h0 : r = 0
    · rw [if_pos h0, h0]
    · have hl : r.log2 < 52 := (Nat.log2_lt h0).2 (by simpa using h1)
      rw [if_neg h0, show r.log2 - 52 = 0 by omega, cutW_zero]; omega
  · rw [if_neg h1]
    have hM : 4503599627370496 + r % 4503599627370496 ≠ 0 := by omega
    have hl : (4503599627370496 + r % 4503599627370496).log2 = 52 := by
      rw [Nat.log2_eq_iff hM]
      rw [show (2 : Nat) ^ 52 = 4503599627370496 by decide, show (2 : Nat) ^ (52 + 1) = 9007199254740992 by decide]; omega
    have hl2 := log2_mul _ (r / 4503599627370496 - 1) hM
    unfold rungOf
    have hp : 0 < 2 ^ (r / 4503599627370496 - 1) := Nat.pow_pos (by decide)
    rw [if_neg (by intro e; rcases Nat.mul_eq_zero.1 e with e | e <;> omega), hl2, hl, show 52 + (r / 4503599627370496 - 1) - 52 = r / 4503599627370496 - 1 by omega, cutW_exact]
    omega
theorem valR_inj {r q : Nat} (h : r < 9218868437227405312) (h' : q < 9218868437227405312) (e : valR r = valR q) : r = q := by
  rw [← rungOf_valR r h, ← rungOf_valR q h', e]
theorem valR_zero {r : Nat} (h : valR r = 0) : r = 0 := by
  unfold valR at h
  split at h
  · exact h
  · have hp : 0 < 2 ^ (r / 4503599627370496 - 1) := Nat.pow_pos (by decide)
    rcases Nat.mul_eq_zero.1 h with h | h <;> omega
/-- what is not above a power of two is rounded to what is not above it. -/
theorem rung_le (N k : Nat) (hk : 52 ≤ k) (hN : N ≤ 2 ^ k) : rungOf N ≤ (k - 51) * 4503599627370496 := by
  unfold rungOf
  by_cases h0 : N = 0
  · rw [if_pos h0]; omega
  · rw [if_neg h0]
    by_cases he : N = 2 ^ k
    · have hl : (2 ^ k : Nat).log2 = k := by
        rw [Nat.log2_eq_iff (by rw [← he]; exact h0)]; exact ⟨Nat.le_refl _, Nat.pow_lt_pow_right (by decide) (by omega)⟩
      rw [he, hl]
      have := cutW_exact .even false (2 ^ 52) (k - 52)
      rw [← Nat.pow_add, show 52 + (k - 52) = k by omega] at this
      rw [this, show (2 : Nat) ^ 52 = 4503599627370496 by decide]
      omega
    · have hlk : N.log2 < k := (Nat.log2_lt h0).2 (by omega)
      have hb : N < 2 ^ (N.log2 + 1) := Nat.lt_log2_self
      by_cases hc : N.log2 ≤ 52
      · rw [show N.log2 - 52 = 0 by omega, cutW_zero]
        have : N < 2 ^ 53 := Nat.lt_of_lt_of_le hb (Nat.pow_le_pow_right (by decide) (by omega))
        rw [show (2 : Nat) ^ 53 = 9007199254740992 by decide] at this
        by_cases hk2 : k = 52
        · subst hk2
          rw [show (2 : Nat) ^ 52 = 4503599627370496 by decide] at hN
          omega
        · omega
      · have hcut : cutW .even false N (N.log2 - 52) ≤ 9007199254740992 := by
          unfold cutW
          have e : (2 : Nat) ^ (N.log2 + 1) = 2 ^ (N.log2 - 52) * 9007199254740992 := by
            rw [show (9007199254740992 : Nat) = 2 ^ 53 by decide, ← Nat.pow_add]; congr 1; omega
          have hd : N / 2 ^ (N.log2 - 52) < 9007199254740992 := Nat.div_lt_of_lt_mul (by omega)
          have hb : ∀ b : Bool, b.toNat ≤ 1 := by intro b; cases b <;> simp
          exact Nat.le_trans (Nat.add_le_add_left (hb _) _) (by omega)
        omega
end Go.Proofs.YtfdkafmomkkapaaGreatDoor
