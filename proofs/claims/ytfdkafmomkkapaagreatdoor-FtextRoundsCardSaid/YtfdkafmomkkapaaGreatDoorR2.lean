/- Plain: doubles as whole numbers of least units: reading, order, whole numbers. No program in this text. -/
import Derived.Test.YtfdkafmomkkapaaGreatDoorR1
import Derived.Test.YtfdkafmomkkapaaGreatDoorU0
namespace Go.Proofs.YtfdkafmomkkapaaGreatDoor
open Ieee

/-- the units of 1. -/
def pw (k : Nat) : Nat := 2 ^ k
theorem pw_eq (k : Nat) : pw k = 2 ^ k := rfl
theorem pw_pos (k : Nat) : 0 < pw k := Nat.pow_pos (by decide)
theorem pw_succ (k : Nat) : pw (k + 1) = 2 * pw k := Nat.pow_succ'
def T1 : Nat := pw 1074
theorem T1_pow : T1 = 2 ^ 1074 := pw_eq 1074
theorem T1_pos : 0 < T1 := pw_pos 1074
theorem T1_half' : T1 = 2 * pw 1073 := pw_succ 1073
theorem pw_le {i j : Nat} (h : i ≤ j) : pw i ≤ pw j := Nat.pow_le_pow_right (by decide) h
theorem pw_add (t k : Nat) : 2 ^ t * pw k = 2 ^ (t + k) := by rw [pw_eq, Nat.pow_add]
theorem pw_add' (k : Nat) : pw (52 + k) = 4503599627370496 * pw k := by
  have := pw_add 52 k
  rw [← pw_eq (52 + k), show (2 : Nat) ^ 52 = 4503599627370496 by decide] at this
  exact this.symm
theorem top_pow : pw (52 + 1075) = 9007199254740992 * T1 := by
  rw [pw_add', show 1075 = 1074 + 1 from rfl, pw_succ]
  have : T1 = pw 1074 := rfl
  rw [← this]; omega
theorem rung_le' (N k : Nat) (hk : 52 ≤ k) (hN : N ≤ pw k) : rungOf N ≤ (k - 51) * 4503599627370496 := rung_le N k hk hN
theorem units_pw (m : Nat) (i : Int) : units m i = m * pw (i + 1074).toNat := rfl
/-- finite. -/
def FinB (b : Nat) : Prop := b < 18446744073709551616 ∧ magB b < 9218868437227405312
def negB (b : Nat) : Bool := decide (9223372036854775808 ≤ b)
def sgnI (s : Bool) (n : Nat) : Int := if s then -(n : Int) else (n : Int)
/-- a finite number in units. -/
def rv (b : Nat) : Int := sgnI (negB b) (valR (magB b))

theorem read_fin {b : Nat} (h : FinB b) : ∃ m i, double.read b = .number (negB b) m i ∧ -1074 ≤ i ∧ units m i = valR (magB b) ∧ (m < 4503599627370496 → i = -1074) ∧ m < 9007199254740992 := by
  obtain ⟨h1, h2⟩ := h
  unfold Format.read
  have e1 : double.signWeight = 9223372036854775808 := by decide
  have e2 : double.binade = 4503599627370496 := by decide
  have e3 : double.infRung = 9218868437227405312 := by decide
  have e4 : double.leastPlace = -1074 := by decide
  simp only [e1, e2, e3, e4]
  have hs : (b / 9223372036854775808 % 2 == 1) = negB b := by
    unfold negB
    rw [Bool.eq_iff_iff, beq_iff_eq, decide_eq_true_iff]; omega
  rw [hs]
  unfold magB at h2 ⊢
  generalize b % 9223372036854775808 = r at *
  by_cases h3 : r < 4503599627370496
  · rw [if_pos h3]
    refine ⟨r, -1074, rfl, by omega, ?_, fun _ => rfl, by omega⟩
    unfold units valR
    rw [if_pos h3]; simp
  · rw [if_neg h3, if_pos h2]
    refine ⟨4503599627370496 + r % 4503599627370496, -1074 + ((r / 4503599627370496 - 1 : Nat) : Int), rfl, by omega, ?_, fun h => by omega, by omega⟩
    unfold units valR
    rw [if_neg h3, show (-1074 + ((r / 4503599627370496 - 1 : Nat) : Int) + 1074).toNat = r / 4503599627370496 - 1 by omega]
theorem sgn_mul (s : Bool) (n k : Nat) : sgnI s n * (k : Int) = sgnI s (n * k) := by
  unfold sgnI; cases s <;> simp [Int.neg_mul]
theorem signed_eq (s : Bool) (m k : Nat) : signed s m k = sgnI s (m * 2 ^ k) := by
  unfold signed sgnI; rw [Nat.shiftLeft_eq]
theorem units_base (m : Nat) (i base : Int) (h1 : -1074 ≤ base) (h2 : base ≤ i) : m * 2 ^ (i - base).toNat * 2 ^ (base + 1074).toNat = units m i := by
  unfold units
  rw [Nat.mul_assoc, ← Nat.pow_add]; congr 2; omega
theorem compare_mul (a b : Int) (k : Nat) (hk : 0 < k) : compare (a * (k : Int)) (b * (k : Int)) = compare a b := by
  have hk' : (0 : Int) < k := by omega
  rcases Int.lt_trichotomy a b with h | h | h
  · rw [Int.compare_eq_lt.2 h, Int.compare_eq_lt.2 (Int.mul_lt_mul_of_pos_right h hk')]
  · subst h; rw [Int.compare_eq_eq.2 rfl, Int.compare_eq_eq.2 rfl]
  · rw [Int.compare_eq_gt.2 h, Int.compare_eq_gt.2 (Int.mul_lt_mul_of_pos_right h hk')]
theorem order_num (s t : Bool) (m n : Nat) (i j : Int) (hi : -1074 ≤ i) (hj : -1074 ≤ j) :
    (Datum.number s m i).order (.number t n j) = some (compare (sgnI s (units m i)) (sgnI t (units n j))) := by
  unfold Datum.order
  simp only
  rw [signed_eq, signed_eq]
  congr 1
  have hp : 0 < 2 ^ (min i j + 1074).toNat := Nat.pow_pos (by decide)
  rw [← compare_mul _ _ _ hp, sgn_mul, sgn_mul, units_base _ _ _ (by omega) (by omega), units_base _ _ _ (by omega) (by omega)]
theorem order_fin {b c : Nat} (hb : FinB b) (hc : FinB c) : double.order b c = some (compare (rv b) (rv c)) := by
  obtain ⟨m, i, e1, h1, h2, _⟩ := read_fin hb
  obtain ⟨n, j, e2, h3, h4, _⟩ := read_fin hc
  unfold Format.order
  rw [e1, e2, order_num _ _ _ _ _ _ h1 h3, h2, h4]
  rfl
theorem word_eq (s : Bool) (r : Nat) : double.word s r = if s then 9223372036854775808 + r else r := by
  unfold Format.word; rw [show double.signWeight = 9223372036854775808 by decide]
theorem mag_word {s : Bool} {r : Nat} (h : r < 9223372036854775808) : magB (double.word s r) = r := by
  rw [word_eq]; unfold magB; cases s
  · rw [if_neg (by decide)]; omega
  · rw [if_pos rfl]; omega
theorem neg_word {s : Bool} {r : Nat} (h : r < 9223372036854775808) : negB (double.word s r) = s := by
  rw [word_eq]; unfold negB; cases s
  · rw [if_neg (by decide)]; exact decide_eq_false (by omega)
  · rw [if_pos rfl]; exact decide_eq_true (by omega)
theorem word_lt {s : Bool} {r : Nat} (h : r < 9223372036854775808) : double.word s r < 18446744073709551616 := by
  rw [word_eq]; split <;> omega
theorem word_fin {s : Bool} {r : Nat} (h : r < 9218868437227405312) : FinB (double.word s r) := ⟨word_lt (by omega), by rw [mag_word (by omega)]; exact h⟩
theorem word_rv {s : Bool} {r : Nat} (h : r < 9218868437227405312) : rv (double.word s r) = sgnI s (valR r) := by
  unfold rv; rw [mag_word (by omega), neg_word (by omega)]
theorem word_self {b : Nat} (h : b < 18446744073709551616) : double.word (negB b) (magB b) = b := by
  rw [word_eq]; unfold negB magB
  by_cases g : 9223372036854775808 ≤ b
  · rw [decide_eq_true g, if_pos rfl]; omega
  · rw [decide_eq_false g, if_neg (by decide)]; omega
theorem fin_word {b : Nat} (h : FinB b) {c : Nat} (hc : FinB c) (hs : negB b = negB c) (hv : valR (magB b) = valR (magB c)) : b = c := by
  rw [← word_self h.1, ← word_self hc.1, hs, valR_inj h.2 hc.2 hv]

/-! made whole -/
/-- the whole number that a number is made. -/
def wholeN (way : Toward) (b : Nat) : Nat := cutW way (negB b) (valR (magB b)) 1074
def wholeB (way : Toward) (b : Nat) : Nat := double.write ((double.read b).integral way)
theorem cutW_le (way : Toward) (s : Bool) (n d : Nat) : cutW way s n d ≤ n / 2 ^ d + 1 := by
  unfold cutW
  have hb : ∀ b : Bool, b.toNat ≤ 1 := by intro b; cases b <;> simp
  exact Nat.add_le_add_left (hb _) _
theorem units_zero (W : Nat) : units W 0 = W * T1 := by
  rw [units_pw, show ((0 : Int) + 1074).toNat = 1074 by omega]; exact rfl
theorem write_num (s : Bool) (m : Nat) (i : Int) (hi : -1074 ≤ i) : double.write (.number s m i) = double.word s (rungOf (units m i)) := nearest_units s m i hi
theorem whole_write {b : Nat} (way : Toward) (h : FinB b) : wholeB way b = double.word (negB b) (rungOf (wholeN way b * T1)) := by
  obtain ⟨m, i, e1, h1, h2, _⟩ := read_fin h
  unfold wholeB wholeN
  rw [e1, integral_units way _ _ _ h1, write_num _ _ _ (by omega), units_zero, h2]
theorem whole_rep (way : Toward) (s : Bool) (r : Nat) (h : r < 9218868437227405312) :
    rungOf (cutW way s (valR r) 1074 * T1) < 9218868437227405312 ∧ valR (rungOf (cutW way s (valR r) 1074 * T1)) = cutW way s (valR r) 1074 * T1 := by
  obtain ⟨M, j, hM, he, hj, _⟩ := valR_form r h
  by_cases hc : 1074 ≤ j
  · obtain ⟨t, rfl⟩ : ∃ t, j = t + 1074 := ⟨j - 1074, by omega⟩
    have e2 : cutW way s (valR r) 1074 * T1 = valR r := by
      rw [he, cutW_split way s M t 1074 _ rfl, Nat.mul_assoc]
      exact congrArg (M * ·) (pw_add t 1074)
    rw [e2, rungOf_valR r h]
    exact ⟨h, rfl⟩
  · have hd : valR r / T1 ≤ 4503599627370496 := by
      have h3 : valR r < 4503599627370497 * T1 := by
        rw [he, ← pw_eq, T1_half']
        have h4 : M * pw j ≤ M * pw 1073 := Nat.mul_le_mul_left _ (pw_le (by omega))
        have hp := pw_pos 1073
        generalize pw 1073 = P at *
        have h6 : M * P ≤ 9007199254740991 * P := Nat.mul_le_mul_right _ (by omega)
        omega
      have := (Nat.div_lt_iff_lt_mul T1_pos).2 h3
      omega
    have hW := cutW_le way s (valR r) 1074
    rw [← T1_pow] at hW
    obtain ⟨W, hWe⟩ : ∃ W, cutW way s (valR r) 1074 = W := ⟨_, rfl⟩
    rw [hWe] at hW ⊢
    have hW2 : W < 9007199254740992 := by omega
    by_cases h0 : W = 0
    · subst h0
      rw [Nat.zero_mul]
      exact ⟨by decide, by decide⟩
    · have hl : W.log2 < 53 := (Nat.log2_lt h0).2 (by simpa using hW2)
      have hr := rung_rep W 1074 hW2 h0 (by omega)
      rw [← T1_pow] at hr
      exact hr
theorem whole_fin {b : Nat} (way : Toward) (h : FinB b) : FinB (wholeB way b) ∧ negB (wholeB way b) = negB b ∧ valR (magB (wholeB way b)) = wholeN way b * T1 := by
  have h1 := whole_rep way (negB b) (magB b) h.2
  rw [whole_write way h]
  refine ⟨word_fin h1.1, neg_word (by unfold wholeN; omega), ?_⟩
  rw [mag_word (by unfold wholeN; omega)]
  exact h1.2
theorem whole_rv {b : Nat} (way : Toward) (h : FinB b) : rv (wholeB way b) = sgnI (negB b) (wholeN way b * T1) := by
  obtain ⟨_, h2, h3⟩ := whole_fin way h
  unfold rv; rw [h2, h3]
theorem sgn_inj {s : Bool} {m n : Nat} (h : sgnI s m = sgnI s n) : m = n := by
  unfold sgnI at h; cases s <;> simp at h <;> omega
/-- a number of units that is whole. -/
def IsWhole (b : Nat) : Prop := valR (magB b) % T1 = 0
instance (b : Nat) : Decidable (IsWhole b) := by unfold IsWhole; infer_instance
theorem whole_of (way : Toward) {b : Nat} (h : IsWhole b) : wholeN way b * T1 = valR (magB b) := by
  unfold IsWhole at h
  have e : valR (magB b) = valR (magB b) / T1 * T1 := by have := Nat.div_add_mod (valR (magB b)) T1; rw [Nat.mul_comm] at this; omega
  unfold wholeN
  generalize valR (magB b) = N at *
  have e2 : cutW way (negB b) (N / T1 * T1) 1074 = N / T1 := by
    have := cutW_exact way (negB b) (N / T1) 1074
    rw [← T1_pow] at this
    exact this
  rw [← e] at e2
  rw [e2]; exact e.symm
theorem whole_self (way : Toward) {b : Nat} (h : FinB b) (hw : IsWhole b) : wholeB way b = b := by
  obtain ⟨h1, h2, h3⟩ := whole_fin way h
  exact fin_word h1 h h2 (h3.trans (whole_of way hw))
theorem whole_is (way : Toward) {b : Nat} (h : FinB b) : IsWhole (wholeB way b) := by
  unfold IsWhole; rw [(whole_fin way h).2.2]; exact Nat.mul_mod_left _ _
/-- it is as it was made: it is whole. -/
theorem whole_iff (way : Toward) {b : Nat} (h : FinB b) : (double.order b (wholeB way b) == some .eq) = decide (IsWhole b) := by
  rw [order_fin h (whole_fin way h).1, whole_rv way h, Bool.eq_iff_iff, decide_eq_true_iff, beq_iff_eq]
  constructor
  · intro e
    have e1 := Int.compare_eq_eq.1 (Option.some.inj e)
    have e2 := sgn_inj (s := negB b) (show sgnI (negB b) (valR (magB b)) = _ from e1)
    unfold IsWhole; rw [e2]; exact Nat.mul_mod_left _ _
  · intro hw
    congr 1
    exact Int.compare_eq_eq.2 (congrArg (sgnI (negB b)) (whole_of way hw).symm)
/-- not farther than a half. -/
theorem even_near (s : Bool) (N : Nat) : 2 * (cutW .even s N 1074 * T1) ≤ 2 * N + T1 ∧ 2 * N ≤ 2 * (cutW .even s N 1074 * T1) + T1 := by
  have hd := Nat.div_add_mod N T1
  have hm := Nat.mod_lt N T1_pos
  unfold cutW
  rw [← T1_pow, Nat.add_mul]
  rw [Nat.mul_comm] at hd
  generalize N / T1 * T1 = A at *
  by_cases c : T1 < 2 * (N % T1)
  · simp [c]; omega
  · by_cases c2 : T1 == 2 * (N % T1) && N / T1 % 2 == 1
    · rw [c2]
      have := (Bool.and_eq_true_iff.1 c2).1
      rw [beq_iff_eq] at this
      simp; omega
    · rw [Bool.not_eq_true] at c2
      rw [c2]
      simp [c]; omega
end Go.Proofs.YtfdkafmomkkapaaGreatDoor
