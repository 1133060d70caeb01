/- Plain: a number turned in its sign; the length of a number's text. No program in this text. -/
import Derived.Test.YtfdkafmomkkapaaDoorU2
import Derived.Test.YtfdkafmomkkapaaDoorG3
namespace Go.Proofs.YtfdkafmomkkapaaDoor
open Go.Lib

def negF (b : Nat) : Nat := b ^^^ 2 ^ 63
theorem negF_pos {b : Nat} (h : b < 9223372036854775808) : negF b = 9223372036854775808 + b := by
  unfold negF
  apply Nat.eq_of_testBit_eq
  intro i
  rw [Nat.testBit_xor, Nat.testBit_two_pow, show 9223372036854775808 + b = 2 ^ 63 + b from rfl]
  rcases Nat.lt_trichotomy i 63 with h1 | h1 | h1
  · rw [Nat.testBit_two_pow_add_gt h1]
    have : ¬ 63 = i := by omega
    simp [this]
  · subst h1
    rw [Nat.testBit_two_pow_add_eq]
    simp
  · have e : 2 ^ 64 ≤ 2 ^ i := Nat.pow_le_pow_right (by decide) h1
    have e64 : (2 : Nat) ^ 64 = 18446744073709551616 := by decide
    have e63 : (2 : Nat) ^ 63 = 9223372036854775808 := by decide
    rw [Nat.testBit_lt_two_pow (x := b) (by omega), Nat.testBit_lt_two_pow (x := 2 ^ 63 + b) (by omega)]
    have : ¬ 63 = i := by omega
    simp [this]
theorem negF_neg {b : Nat} (h0 : 9223372036854775808 ≤ b) (h : b < 18446744073709551616) : negF b = b - 9223372036854775808 := by
  obtain ⟨c, rfl⟩ : ∃ c, b = 9223372036854775808 + c := ⟨b - 9223372036854775808, by omega⟩
  have hc : c < 9223372036854775808 := by omega
  rw [← negF_pos hc]
  unfold negF
  rw [Nat.xor_assoc, Nat.xor_self, Nat.xor_zero]
  have := negF_pos hc
  unfold negF at this
  rw [this]; omega
theorem negF_lt {b : Nat} (h : b < 18446744073709551616) : negF b < 18446744073709551616 := by
  by_cases h0 : 9223372036854775808 ≤ b
  · rw [negF_neg h0 h]; omega
  · rw [negF_pos (by omega)]; omega
theorem negF_mag {b : Nat} (h : b < 18446744073709551616) : magB (negF b) = magB b := by
  unfold magB
  by_cases h0 : 9223372036854775808 ≤ b
  · rw [negF_neg h0 h]; omega
  · rw [negF_pos (by omega)]; omega
theorem frac_mag (b : Nat) : fracB b = magB b % 4503599627370496 := by unfold fracB magB; omega
theorem negF_text {b : Nat} (h : b < 18446744073709551616) (hn : isNaNB b = false) :
    (b < 9223372036854775808 → textF (negF b) = 45 :: textF b) ∧ (9223372036854775808 ≤ b → textF b = 45 :: textF (negF b)) := by
  have hm := negF_mag h
  have hn2 : isNaNB (negF b) = false := by unfold isNaNB at *; rw [hm]; exact hn
  have he : expB (negF b) = expB b := by unfold expB; rw [hm]
  have hf : fracB (negF b) = fracB b := by rw [frac_mag, frac_mag b, hm]
  rw [textF_num hn, textF_num hn2, he, hf]
  unfold signT
  constructor
  · intro h0
    rw [negF_pos h0, if_pos (by omega), if_neg (by omega)]; rfl
  · intro h0
    rw [negF_neg h0 h, if_pos h0, if_neg (by omega)]; rfl
theorem textF_nan {b : Nat} (hn : isNaNB b = true) : textF b = [110, 97, 110] := if_pos hn
theorem negF_nan {b : Nat} (h : b < 18446744073709551616) (hn : isNaNB b = true) : isNaNB (negF b) = true := by unfold isNaNB at *; rw [negF_mag h]; exact hn
theorem absT_length (e f : Nat) (he : e < 2048) (hf : f < 4503599627370496) : (absT e f).length ≤ 60 := by
  have h1 := (hexF_pad hf).1
  have h2 := itoa_length (n := expT e) (by unfold expT; split <;> omega) (by unfold expT; split <;> omega)
  unfold absT
  split
  · simp
  · split
    · simp
    · rw [List.length_cons, List.length_append, List.length_cons]
      have : (if f = 0 then [] else 46 :: hexF f).length ≤ 14 := by split <;> simp <;> omega
      omega
theorem textF_length (b : Nat) : (textF b).length ≤ 61 := by
  unfold textF
  split
  · simp
  · have := absT_length (expB b) (fracB b) (expB_lt b) (fracB_lt b)
    rw [List.length_append]
    split
    · simp only [List.length_singleton]; omega
    · simp only [List.length_nil]; omega
end Go.Proofs.YtfdkafmomkkapaaDoor
