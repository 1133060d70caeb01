/- The statement CellsRefused: what is no cell, and what may not be moved, is refused, and nothing has changed in that cell; for every input that can be read. -/
import Derived.Test.YtfodeeejolkkfaaGreatRows
import Derived.ProofKit
import Derived.OpenShut
import Derived.Lib.SlBytesRowKit
import Derived.Lib.SmallJoins
import Derived.Deep.Slices
import Derived.Deep.Fields
import Derived.ChangeMaps5
import Derived.Test.YtfodeeejolkkfaaGreatEa
import Derived.Test.YtfodeeejolkkfaaGreatEe
namespace Go.Proofs.YtfodeeejolkkfaaGreat
open Ieee

/-- the units of 1. -/
def pw (k : Nat) : Nat := 2 ^ k
theorem pw_eq (k : Nat) : pw k = 2 ^ k := rfl
theorem pw_pos (k : Nat) : 0 < pw k := Nat.pow_pos (by decide)
theorem pw_succ (k : Nat) : pw (k + 1) = 2 * pw k := Nat.pow_succ'
def T1 : Nat := pw 1074
theorem T1_pow : T1 = 2 ^ 1074 := pw_eq 1074
theorem T1_pos : 0 < T1 := pw_pos 1074
theorem T1_half' : T1 = 2 * pw 1073 := pw_succ 1073
theorem pw_le {i j : Nat} (h : i ≤ j) : pw i ≤ pw j := Nat.pow_le_pow_right (by decide) h
theorem pw_add (t k : Nat) : 2 ^ t * pw k = 2 ^ (t + k) := by rw [pw_eq, Nat.pow_add]
theorem pw_add' (k : Nat) : pw (52 + k) = 4503599627370496 * pw k := by
  have := pw_add 52 k
  rw [← pw_eq (52 + k), show (2 : Nat) ^ 52 = 4503599627370496 by decide] at this
  exact this.symm
theorem top_pow : pw (52 + 1075) = 9007199254740992 * T1 := by
  rw [pw_add', show 1075 = 1074 + 1 from rfl, pw_succ]
  have : T1 = pw 1074 := rfl
  rw [← this]; omega
theorem rung_le' (N k : Nat) (hk : 52 ≤ k) (hN : N ≤ pw k) : rungOf N ≤ (k - 51) * 4503599627370496 := rung_le N k hk hN
theorem units_pw (m : Nat) (i : Int) : units m i = m * pw (i + 1074).toNat := rfl
/-- finite. -/
def FinB (b : Nat) : Prop := b < 18446744073709551616 ∧ magB b < 9218868437227405312
def negB (b : Nat) : Bool := decide (9223372036854775808 ≤ b)
def sgnI (s : Bool) (n : Nat) : Int := if s then -(n : Int) else (n : Int)
/-- a finite number in units. -/
def rv (b : Nat) : Int := sgnI (negB b) (valR (magB b))

theorem read_fin {b : Nat} (h : FinB b) : ∃ m i, double.read b = .number (negB b) m i ∧ -1074 ≤ i ∧ units m i = valR (magB b) ∧ (m < 4503599627370496 → i = -1074) ∧ m < 9007199254740992 := by
  obtain ⟨h1, h2⟩ := h
  unfold Format.read
  have e1 : double.signWeight = 9223372036854775808 := by decide
  have e2 : double.binade = 4503599627370496 := by decide
  have e3 : double.infRung = 9218868437227405312 := by decide
  have e4 : double.leastPlace = -1074 := by decide
  simp only [e1, e2, e3, e4]
  have hs : (b / 9223372036854775808 % 2 == 1) = negB b := by
    unfold negB
    rw [Bool.eq_iff_iff, beq_iff_eq, decide_eq_true_iff]; omega
  rw [hs]
  unfold magB at h2 ⊢
  generalize b % 9223372036854775808 = r at *
  by_cases h3 : r < 4503599627370496
  · rw [if_pos h3]
    refine ⟨r, -1074, rfl, by omega, ?_, fun _ => rfl, by omega⟩
    unfold units valR
    rw [if_pos h3]; simp
  · rw [if_neg h3, if_pos h2]
    refine ⟨4503599627370496 + r % 4503599627370496, -1074 + ((r / 4503599627370496 - 1 : Nat) : Int), rfl, by omega, ?_, fun h => by omega, by omega⟩
    unfold units valR
    rw [if_neg h3, show (-1074 + ((r / 4503599627370496 - 1 : Nat) : Int) + 1074).toNat = r / 4503599627370496 - 1 by omega]
theorem sgn_mul (s : Bool) (n k : Nat) : sgnI s n * (k : Int) = sgnI s (n * k) := by
  unfold sgnI; cases s <;> simp [Int.neg_mul]
theorem signed_eq (s : Bool) (m k : Nat) : signed s m k = sgnI s (m * 2 ^ k) := by
  unfold signed sgnI; rw [Nat.shiftLeft_eq]
theorem units_base (m : Nat) (i base : Int) (h1 : -1074 ≤ base) (h2 : base ≤ i) : m * 2 ^ (i - base).toNat * 2 ^ (base + 1074).toNat = units m i := by
  unfold units
  rw [Nat.mul_assoc, ← Nat.pow_add]; congr 2; omega
theorem compare_mul (a b : Int) (k : Nat) (hk : 0 < k) : compare (a * (k : Int)) (b * (k : Int)) = compare a b := by
  have hk' : (0 : Int) < k := by omega
  rcases Int.lt_trichotomy a b with h | h | h
  · rw [Int.compare_eq_lt.2 h, Int.compare_eq_lt.2 (Int.mul_lt_mul_of_pos_right h hk')]
  · subst h; rw [Int.compare_eq_eq.2 rfl, Int.compare_eq_eq.2 rfl]
  · rw [Int.compare_eq_gt.2 h, Int.compare_eq_gt.2 (Int.mul_lt_mul_of_pos_right h hk')]
theorem order_num (s t : Bool) (m n : Nat) (i j : Int) (hi : -1074 ≤ i) (hj : -1074 ≤ j) :
    (Datum.number s m i).order (.number t n j) = some (compare (sgnI s (units m i)) (sgnI t (units n j))) := by
  unfold Datum.order
  simp only
  rw [signed_eq, signed_eq]
  congr 1
  have hp : 0 < 2 ^ (min i j + 1074).toNat := Nat.pow_pos (by decide)
  rw [← compare_mul _ _ _ hp, sgn_mul, sgn_mul, units_base _ _ _ (by omega) (by omega), units_base _ _ _ (by omega) (by omega)]
theorem order_fin {b c : Nat} (hb : FinB b) (hc : FinB c) : double.order b c = some (compare (rv b) (rv c)) := by
  obtain ⟨m, i, e1, h1, h2, _⟩ := read_fin hb
  obtain ⟨n, j, e2, h3, h4, _⟩ := read_fin hc
  unfold Format.order
  rw [e1, e2, order_num _ _ _ _ _ _ h1 h3, h2, h4]
  rfl
theorem word_eq (s : Bool) (r : Nat) : double.word s r = if s then 9223372036854775808 + r else r := by
  unfold Format.word; rw [show double.signWeight = 9223372036854775808 by decide]
theorem mag_word {s : Bool} {r : Nat} (h : r < 9223372036854775808) : magB (double.word s r) = r := by
  rw [word_eq]; unfold magB; cases s
  · rw [if_neg (by decide)]; omega
  · rw [if_pos rfl]; omega
theorem neg_word {s : Bool} {r : Nat} (h : r < 9223372036854775808) : negB (double.word s r) = s := by
  rw [word_eq]; unfold negB; cases s
  · rw [if_neg (by decide)]; exact decide_eq_false (by omega)
  · rw [if_pos rfl]; exact decide_eq_true (by omega)
theorem word_lt {s : Bool} {r : Nat} (h : r < 9223372036854775808) : double.word s r < 18446744073709551616 := by
  rw [word_eq]; split <;> omega
theorem word_fin {s : Bool} {r : Nat} (h : r < 9218868437227405312) : FinB (double.word s r) := ⟨word_lt (by omega), by rw [mag_word (by omega)]; exact h⟩
theorem word_rv {s : Bool} {r : Nat} (h : r < 9218868437227405312) : rv (double.word s r) = sgnI s (valR r) := by
  unfold rv; rw [mag_word (by omega), neg_word (by omega)]
theorem word_self {b : Nat} (h : b < 18446744073709551616) : double.word (negB b) (magB b) = b := by
  rw [word_eq]; unfold negB magB
  by_cases g : 9223372036854775808 ≤ b
  · rw [decide_eq_true g, if_pos rfl]; omega
  · rw [decide_eq_false g, if_neg (by decide)]; omega
theorem fin_word {b : Nat} (h : FinB b) {c : Nat} (hc : FinB c) (hs : negB b = negB c) (hv : valR (magB b) = valR (magB c)) : b = c := by
  rw [← word_self h.1, ← word_self hc.1, hs, valR_inj h.2 hc.2 hv]

/-! made whole -/
/-- the whole number that a number is made. -/
def wholeN (way : Toward) (b : Nat) : Nat := cutW way (negB b) (valR (magB b)) 1074
def wholeB (way : Toward) (b : Nat) : Nat := double.write ((double.read b).integral way)
theorem cutW_le (way : Toward) (s : Bool) (n d : Nat) : cutW way s n d ≤ n / 2 ^ d + 1 := by
  unfold cutW
  have hb : ∀ b : Bool, b.toNat ≤ 1 := by intro b; cases b <;> simp
  exact Nat.add_le_add_left (hb _) _
theorem units_zero (W : Nat) : units W 0 = W * T1 := by
  rw [units_pw, show ((0 : Int) + 1074).toNat = 1074 by omega]; exact rfl
theorem write_num (s : Bool) (m : Nat) (i : Int) (hi : -1074 ≤ i) : double.write (.number s m i) = double.word s (rungOf (units m i)) := nearest_units s m i hi
theorem whole_write {b : Nat} (way : Toward) (h : FinB b) : wholeB way b = double.word (negB b) (rungOf (wholeN way b * T1)) := by
  obtain ⟨m, i, e1, h1, h2, _⟩ := read_fin h
  unfold wholeB wholeN
  rw [e1, integral_units way _ _ _ h1, write_num _ _ _ (by omega), units_zero, h2]
theorem whole_rep (way : Toward) (s : Bool) (r : Nat) (h : r < 9218868437227405312) :
    rungOf (cutW way s (valR r) 1074 * T1) < 9218868437227405312 ∧ valR (rungOf (cutW way s (valR r) 1074 * T1)) = cutW way s (valR r) 1074 * T1 := by
  obtain ⟨M, j, hM, he, hj, _⟩ := valR_form r h
  by_cases hc : 1074 ≤ j
  · obtain ⟨t, rfl⟩ : ∃ t, j = t + 1074 := ⟨j - 1074, by omega⟩
    have e2 : cutW way s (valR r) 1074 * T1 = valR r := by
      rw [he, cutW_split way s M t 1074 _ rfl, Nat.mul_assoc]
      exact congrArg (M * ·) (pw_add t 1074)
    rw [e2, rungOf_valR r h]
    exact ⟨h, rfl⟩
  · have hd : valR r / T1 ≤ 4503599627370496 := by
      have h3 : valR r < 4503599627370497 * T1 := by
        rw [he, ← pw_eq, T1_half']
        have h4 : M * pw j ≤ M * pw 1073 := Nat.mul_le_mul_left _ (pw_le (by omega))
        have hp := pw_pos 1073
        generalize pw 1073 = P at *
        have h6 : M * P ≤ 9007199254740991 * P := Nat.mul_le_mul_right _ (by omega)
        omega
      have := (Nat.div_lt_iff_lt_mul T1_pos).2 h3
      omega
    have hW := cutW_le way s (valR r) 1074
    rw [← T1_pow] at hW
    obtain ⟨W, hWe⟩ : ∃ W, cutW way s (valR r) 1074 = W := ⟨_, rfl⟩
    rw [hWe] at hW ⊢
    have hW2 : W < 9007199254740992 := by omega
    by_cases h0 : W = 0
    · subst h0
      rw [Nat.zero_mul]
      exact ⟨by decide, by decide⟩
    · have hl : W.log2 < 53 := (Nat.log2_lt h0).2 (by simpa using hW2)
      have hr := rung_rep W 1074 hW2 h0 (by omega)
      rw [← T1_pow] at hr
      exact hr
theorem whole_fin {b : Nat} (way : Toward) (h : FinB b) : FinB (wholeB way b) ∧ negB (wholeB way b) = negB b ∧ valR (magB (wholeB way b)) = wholeN way b * T1 := by
  have h1 := whole_rep way (negB b) (magB b) h.2
  rw [whole_write way h]
  refine ⟨word_fin h1.1, neg_word (by unfold wholeN; omega), ?_⟩
  rw [mag_word (by unfold wholeN; omega)]
  exact h1.2
theorem whole_rv {b : Nat} (way : Toward) (h : FinB b) : rv (wholeB way b) = sgnI (negB b) (wholeN way b * T1) := by
  obtain ⟨_, h2, h3⟩ := whole_fin way h
  unfold rv; rw [h2, h3]
theorem sgn_inj {s : Bool} {m n : Nat} (h : sgnI s m = sgnI s n) : m = n := by
  unfold sgnI at h; cases s <;> simp at h <;> omega
/-- a number of units that is whole. -/
def IsWhole (b : Nat) : Prop := valR (magB b) % T1 = 0
instance (b : Nat) : Decidable (IsWhole b) := by unfold IsWhole; infer_instance
theorem whole_of (way : Toward) {b : Nat} (h : IsWhole b) : wholeN way b * T1 = valR (magB b) := by
  unfold IsWhole at h
  have e : valR (magB b) = valR (magB b) / T1 * T1 := by have := Nat.div_add_mod (valR (magB b)) T1; rw [Nat.mul_comm] at this; omega
  unfold wholeN
  generalize valR (magB b) = N at *
  have e2 : cutW way (negB b) (N / T1 * T1) 1074 = N / T1 := by
    have := cutW_exact way (negB b) (N / T1) 1074
    rw [← T1_pow] at this
    exact this
  rw [← e] at e2
  rw [e2]; exact e.symm
theorem whole_self (way : Toward) {b : Nat} (h : FinB b) (hw : IsWhole b) : wholeB way b = b := by
  obtain ⟨h1, h2, h3⟩ := whole_fin way h
  exact fin_word h1 h h2 (h3.trans (whole_of way hw))
theorem whole_is (way : Toward) {b : Nat} (h : FinB b) : IsWhole (wholeB way b) := by
  unfold IsWhole; rw [(whole_fin way h).2.2]; exact Nat.mul_mod_left _ _
/-- it is as it was made: it is whole. -/
theorem whole_iff (way : Toward) {b : Nat} (h : FinB b) : (double.order b (wholeB way b) == some .eq) = decide (IsWhole b) := by
  rw [order_fin h (whole_fin way h).1, whole_rv way h, Bool.eq_iff_iff, decide_eq_true_iff, beq_iff_eq]
  constructor
  · intro e
    have e1 := Int.compare_eq_eq.1 (Option.some.inj e)
    have e2 := sgn_inj (s := negB b) (show sgnI (negB b) (valR (magB b)) = _ from e1)
    unfold IsWhole; rw [e2]; exact Nat.mul_mod_left _ _
  · intro hw
    congr 1
    exact Int.compare_eq_eq.2 (congrArg (sgnI (negB b)) (whole_of way hw).symm)
/-- not farther than a half. -/
theorem even_near (s : Bool) (N : Nat) : 2 * (cutW .even s N 1074 * T1) ≤ 2 * N + T1 ∧ 2 * N ≤ 2 * (cutW .even s N 1074 * T1) + T1 := by
  have hd := Nat.div_add_mod N T1
  have hm := Nat.mod_lt N T1_pos
  unfold cutW
  rw [← T1_pow, Nat.add_mul]
  rw [Nat.mul_comm] at hd
  generalize N / T1 * T1 = A at *
  by_cases c : T1 < 2 * (N % T1)
  · simp [c]; omega
  · by_cases c2 : T1 == 2 * (N % T1) && N / T1 % 2 == 1
    · rw [c2]
      have := (Bool.and_eq_true_iff.1 c2).1
      rw [beq_iff_eq] at this
      simp; omega
    · rw [Bool.not_eq_true] at c2
      rw [c2]
      simp [c]; omega
end Go.Proofs.YtfodeeejolkkfaaGreat
namespace Go.Proofs.YtfodeeejolkkfaaGreat
open Ieee

theorem valR_mono {r q : Nat} (h : r ≤ q) : valR r ≤ valR q := by
  unfold valR
  by_cases h1 : q < 4503599627370496
  · rw [if_pos h1, if_pos (by omega)]; exact h
  · rw [if_neg h1]
    by_cases h2 : r < 4503599627370496
    · rw [if_pos h2]
      have hp : 1 ≤ 2 ^ (q / 4503599627370496 - 1) := Nat.pow_pos (by decide)
      have := Nat.mul_le_mul_left (4503599627370496 + q % 4503599627370496) hp
      omega
    · rw [if_neg h2]
      by_cases h3 : r / 4503599627370496 = q / 4503599627370496
      · rw [h3]; exact Nat.mul_le_mul_right _ (by omega)
      · have h4 : r / 4503599627370496 < q / 4503599627370496 := by omega
        have e : (2 : Nat) ^ (q / 4503599627370496 - 1) = 2 ^ (r / 4503599627370496 - 1) * 2 ^ (q / 4503599627370496 - r / 4503599627370496) := by
          rw [← Nat.pow_add]; congr 1; omega
        have h5 : 2 ≤ 2 ^ (q / 4503599627370496 - r / 4503599627370496) := by
          have := Nat.pow_le_pow_right (n := 2) (by decide) (show 1 ≤ q / 4503599627370496 - r / 4503599627370496 by omega)
          simpa using this
        rw [e]
        have h6 : (4503599627370496 + r % 4503599627370496) * 2 ^ (r / 4503599627370496 - 1) ≤ (2 * 4503599627370496) * 2 ^ (r / 4503599627370496 - 1) := Nat.mul_le_mul_right _ (by omega)
        have h7 : 4503599627370496 * (2 ^ (r / 4503599627370496 - 1) * 2) ≤ (4503599627370496 + q % 4503599627370496) * (2 ^ (r / 4503599627370496 - 1) * 2 ^ (q / 4503599627370496 - r / 4503599627370496)) :=
          Nat.mul_le_mul (by omega) (Nat.mul_le_mul_left _ h5)
        have h8 : 2 * 4503599627370496 * 2 ^ (r / 4503599627370496 - 1) = 4503599627370496 * (2 ^ (r / 4503599627370496 - 1) * 2) := by
          generalize 2 ^ (r / 4503599627370496 - 1) = P; omega
        omega
theorem valR_pow (k : Nat) : valR ((k + 1) * 4503599627370496) = pw (52 + k) := by
  unfold valR
  rw [if_neg (by omega), show (k + 1) * 4503599627370496 % 4503599627370496 = 0 by omega, show (k + 1) * 4503599627370496 / 4503599627370496 - 1 = k by omega, Nat.add_zero, ← pw_eq k, ← pw_add', show (52 : Nat) + k = 52 + k from rfl]
theorem fin_num {b : Nat} (h : b < 9218868437227405312) : FinB b ∧ rv b = valR b ∧ FinB (9223372036854775808 + b) ∧ rv (9223372036854775808 + b) = -(valR b : Int) := by
  have w0 : double.word false b = b := by rw [word_eq]; rfl
  have w1 : double.word true b = 9223372036854775808 + b := by rw [word_eq]; rfl
  have f0 := word_fin (s := false) h
  have f1 := word_fin (s := true) h
  have r0 := word_rv (s := false) h
  have r1 := word_rv (s := true) h
  rw [w0] at f0 r0
  rw [w1] at f1 r1
  exact ⟨f0, r0, f1, r1⟩
theorem half_rv : FinB 4602678819172646912 ∧ rv 4602678819172646912 = (pw 1073 : Nat) ∧ FinB 13826050856027422720 ∧ rv 13826050856027422720 = -((pw 1073 : Nat) : Int) := by
  have h := @fin_num ((1021 + 1) * 4503599627370496) (by decide)
  rw [valR_pow 1021] at h
  exact h
theorem top_rv : FinB 4845873199050653696 ∧ rv 4845873199050653696 = (9007199254740992 * T1 : Nat) ∧ FinB 14069245235905429504 ∧ rv 14069245235905429504 = -((9007199254740992 * T1 : Nat) : Int) := by
  have h := @fin_num ((1075 + 1) * 4503599627370496) (by decide)
  rw [valR_pow 1075, show pw (52 + 1075) = 9007199254740992 * T1 from top_pow] at h
  exact h

/-! the difference -/
theorem sum_rv (s t : Bool) (m n : Nat) (i j : Int) (hi : -1074 ≤ i) (hj : -1074 ≤ j) :
    ∃ g, ((Datum.number s m i).sum (.number t n j)).map double.write = some (double.word g (rungOf (sgnI s (units m i) + sgnI t (units n j)).natAbs)) ∧
      (0 < sgnI s (units m i) + sgnI t (units n j) → g = false) ∧ (sgnI s (units m i) + sgnI t (units n j) < 0 → g = true) := by
  unfold Datum.sum
  simp only [Option.map_some]
  rw [write_num _ _ _ (by omega), signed_eq, signed_eq]
  have hk : (0 : Int) < ((2 ^ (min i j + 1074).toNat : Nat) : Int) := by
    have : 0 < 2 ^ (min i j + 1074).toNat := Nat.pow_pos (by decide)
    omega
  have e : (sgnI s (m * 2 ^ (i - min i j).toNat) + sgnI t (n * 2 ^ (j - min i j).toNat)) * ((2 ^ (min i j + 1074).toNat : Nat) : Int) = sgnI s (units m i) + sgnI t (units n j) := by
    rw [Int.add_mul, sgn_mul, sgn_mul, units_base _ _ _ (by omega) (by omega), units_base _ _ _ (by omega) (by omega)]
  have eu : units (sgnI s (m * 2 ^ (i - min i j).toNat) + sgnI t (n * 2 ^ (j - min i j).toNat)).natAbs (min i j) = (sgnI s (units m i) + sgnI t (units n j)).natAbs := by
    rw [← e, Int.natAbs_mul, Int.natAbs_natCast]
    rfl
  refine ⟨_, congrArg some (congrArg _ (congrArg rungOf eu)), ?_, ?_⟩
  · intro h
    rw [← e] at h
    have h2 := Int.pos_of_mul_pos_left h hk
    rw [if_neg (by omega)]; exact decide_eq_false (by omega)
  · intro h
    rw [← e] at h
    have h2 := Int.neg_of_mul_neg_left h hk
    rw [if_neg (by omega)]; exact decide_eq_true h2
theorem sub_rv {b c : Nat} (hb : FinB b) (hc : FinB c) : ∃ g, double.sub b c = some (double.word g (rungOf (rv b - rv c).natAbs)) ∧ (0 < rv b - rv c → g = false) ∧ (rv b - rv c < 0 → g = true) := by
  obtain ⟨m, i, e1, h1, h2, _⟩ := read_fin hb
  obtain ⟨n, j, e2, h3, h4, _⟩ := read_fin hc
  have := sum_rv (negB b) (!negB c) m n i j h1 h3
  have e : sgnI (negB b) (units m i) + sgnI (!negB c) (units n j) = rv b - rv c := by
    unfold rv; rw [h2, h4]; unfold sgnI; cases negB b <;> cases negB c <;> simp <;> omega
  rw [e] at this
  unfold Format.sub
  rw [e1, e2]
  exact this
/-- a number and the whole one next to it. -/
theorem near_half {b : Nat} (h : FinB b) : ∃ d, double.sub (wholeB .even b) b = some d ∧ (double.order d 4602678819172646912 == some .gt) = false ∧ (double.order d 13826050856027422720 == some .lt) = false := by
  obtain ⟨hf, h2, h3⟩ := whole_fin .even h
  obtain ⟨g, hg, _⟩ := sub_rv hf h
  have hn : 2 * (wholeN .even b * T1) ≤ 2 * valR (magB b) + T1 ∧ 2 * valR (magB b) ≤ 2 * (wholeN .even b * T1) + T1 := even_near (negB b) (valR (magB b))
  have hd : (rv (wholeB .even b) - rv b).natAbs ≤ pw 1073 := by
    unfold rv; rw [h2, h3]
    have ht := T1_half'
    generalize wholeN .even b * T1 = A at *
    generalize valR (magB b) = N at *
    generalize negB b = s at *
    unfold sgnI
    cases s <;> simp <;> omega
  have hr := rung_le' _ 1073 (by decide) hd
  generalize (rv (wholeB .even b) - rv b).natAbs = D at *
  have hv := valR_mono hr
  rw [show (1073 - 51) * 4503599627370496 = (1021 + 1) * 4503599627370496 from rfl, valR_pow 1021] at hv
  have hl : rungOf D < 9218868437227405312 := by omega
  refine ⟨_, hg, ?_, ?_⟩
  · rw [order_fin (word_fin hl) half_rv.1, half_rv.2.1, word_rv hl, beq_eq_false_iff_ne]
    intro e
    have e1 := Int.compare_eq_gt.1 (Option.some.inj e)
    unfold sgnI at e1
    generalize pw 1073 = P at *
    cases g <;> simp at e1 <;> omega
  · rw [order_fin (word_fin hl) half_rv.2.2.1, half_rv.2.2.2, word_rv hl, beq_eq_false_iff_ne]
    intro e
    have e1 := Int.compare_eq_lt.1 (Option.some.inj e)
    unfold sgnI at e1
    generalize pw 1073 = P at *
    cases g <;> simp at e1 <;> omega
theorem zero_fin : FinB 0 ∧ rv 0 = 0 := ⟨by unfold FinB; decide, by decide⟩
/-- a number less itself is no other than 0. -/
theorem self_sub {b : Nat} (h : FinB b) : ∃ z, double.sub b b = some z ∧ double.order z 0 = some .eq := by
  obtain ⟨g, hg, _⟩ := sub_rv h h
  rw [Int.sub_self] at hg
  refine ⟨_, hg, ?_⟩
  have hl : rungOf (0 : Int).natAbs < 9218868437227405312 := by decide
  rw [order_fin (word_fin hl) zero_fin.1, zero_fin.2, word_rv hl]
  cases g <;> rfl

/-! ints -/
def intB (n : Int) : Nat := double.write (.number (decide (n < 0)) n.natAbs 0)
theorem int_rep {n : Nat} (h : n ≤ 9007199254740992) : rungOf (n * T1) < 9218868437227405312 ∧ valR (rungOf (n * T1)) = n * T1 := by
  by_cases h0 : n = 0
  · subst h0; rw [Nat.zero_mul]; exact ⟨by decide, by decide⟩
  · by_cases h1 : n = 9007199254740992
    · subst h1
      rw [← top_pow, ← valR_pow 1075, rungOf_valR _ (by decide)]
      exact ⟨by decide, rfl⟩
    · have h2 : n < 9007199254740992 := by omega
      have hl : n.log2 < 53 := (Nat.log2_lt h0).2 (by simpa using h2)
      have hr := rung_rep n 1074 h2 h0 (by omega)
      rw [← T1_pow] at hr
      exact hr
theorem int_rv {n : Int} (h : n.natAbs ≤ 9007199254740992) : FinB (intB n) ∧ rv (intB n) = n * (T1 : Int) ∧ negB (intB n) = decide (n < 0) ∧ valR (magB (intB n)) = n.natAbs * T1 := by
  have hr := int_rep h
  unfold intB
  rw [write_num _ _ _ (by omega), units_zero]
  refine ⟨word_fin hr.1, ?_, neg_word (by omega), by rw [mag_word (by omega)]; exact hr.2⟩
  rw [word_rv hr.1, hr.2, ← sgn_mul]
  congr 1
  unfold sgnI
  by_cases g : n < 0
  · rw [decide_eq_true g, if_pos rfl]; omega
  · rw [decide_eq_false g, if_neg (by decide)]; omega
/-- a number as an int. -/
def toI (b : Nat) : Int := sgnI (negB b) (wholeN .zero b)
theorem toInt_fin {b : Nat} (h : FinB b) : (double.read b).toInt .zero = some (toI b) := by
  obtain ⟨m, i, e1, h1, h2, _⟩ := read_fin h
  unfold Datum.toInt
  rw [e1, integral_units .zero _ _ _ h1, h2]
  simp only
  rw [signed_eq, Nat.pow_zero, Nat.mul_one]
  rfl
theorem toI_whole {b : Nat} (h : IsWhole b) : toI b * (T1 : Int) = rv b := by
  unfold toI rv
  rw [sgn_mul, whole_of .zero h]
theorem int_whole {n : Int} (h : n.natAbs ≤ 9007199254740992) : IsWhole (intB n) := by
  unfold IsWhole; rw [(int_rv h).2.2.2]; exact Nat.mul_mod_left _ _
theorem T1_posI : (0 : Int) < (T1 : Int) := by have := T1_pos; omega
theorem int_back {n : Int} (h : n.natAbs ≤ 9007199254740992) : toI (intB n) = n := by
  have h1 := toI_whole (int_whole h)
  rw [(int_rv h).2.1] at h1
  exact Int.eq_of_mul_eq_mul_right (by have := T1_posI; omega) h1
/-- the edges. -/
theorem le_top {b : Nat} (h : FinB b) : (double.order b 4845873199050653696 == some .gt) = decide ((9007199254740992 * T1 : Nat) < rv b) := by
  rw [order_fin h top_rv.1, top_rv.2.1, Bool.eq_iff_iff, beq_iff_eq, decide_eq_true_iff, Option.some.injEq, Int.compare_eq_gt]
theorem ge_low {b : Nat} (h : FinB b) : (double.order b 14069245235905429504 == some .lt) = decide (rv b < -((9007199254740992 * T1 : Nat) : Int)) := by
  rw [order_fin h top_rv.2.2.1, top_rv.2.2.2, Bool.eq_iff_iff, beq_iff_eq, decide_eq_true_iff, Option.some.injEq, Int.compare_eq_lt]
theorem toI_small {b : Nat} (hw : IsWhole b) (h1 : ¬ ((9007199254740992 * T1 : Nat) : Int) < rv b) (h2 : ¬ rv b < -((9007199254740992 * T1 : Nat) : Int)) : (toI b).natAbs ≤ 9007199254740992 := by
  rw [← toI_whole hw, Int.natCast_mul] at h1 h2
  have ht := T1_posI
  have h3 : toI b ≤ 9007199254740992 := Int.le_of_mul_le_mul_right (a := (T1 : Int)) (by simpa using h1) ht
  have h4 : -9007199254740992 ≤ toI b := Int.le_of_mul_le_mul_right (a := (T1 : Int)) (by rw [Int.neg_mul]; simpa using h2) ht
  omega
theorem int_eq {b : Nat} (h : FinB b) (hw : IsWhole b) (hs : (toI b).natAbs ≤ 9007199254740992) : double.order (intB (toI b)) b = some .eq := by
  rw [order_fin (int_rv hs).1 h, (int_rv hs).2.1, toI_whole hw, Int.compare_eq_eq.2 rfl]

/-! one divided by a number -/
theorem order_zero {s : Bool} {r : Nat} (h0 : r ≠ 0) (h : r ≤ 9218868437227405312) : (double.order (double.word s r) 0 == some .lt) = s := by
  by_cases h1 : r < 9218868437227405312
  · rw [order_fin (word_fin h1) zero_fin.1, zero_fin.2, word_rv h1]
    have hv : 0 < valR r := by
      have : valR r ≠ 0 := fun e => h0 (valR_zero e)
      omega
    rw [Bool.eq_iff_iff, beq_iff_eq, Option.some.injEq, Int.compare_eq_lt]
    unfold sgnI; cases s <;> simp <;> omega
  · obtain rfl : r = 9218868437227405312 := by omega
    cases s <;> decide +kernel
theorem rung_pos {N : Nat} (h : N ≠ 0) : rungOf N ≠ 0 ∧ rungOf N ≤ 9218868437227405312 := by
  refine ⟨?_, by unfold rungOf; split <;> omega⟩
  unfold rungOf
  rw [if_neg h]
  by_cases hc : N.log2 ≤ 52
  · rw [show N.log2 - 52 = 0 by omega, cutW_zero]; omega
  · have : 1 * 4503599627370496 ≤ (N.log2 - 52) * 4503599627370496 := Nat.mul_le_mul_right _ (by omega)
    omega
theorem read_one : double.read 4607182418800017408 = .number false 4503599627370496 (-52) := by decide +kernel
theorem inv_sign {b : Nat} (h : FinB b) (hs : 2 * valR (magB b) ≤ T1) : ∃ y, double.div 4607182418800017408 b = some y ∧ (double.order y 0 == some .lt) = negB b := by
  obtain ⟨n, j, e2, h3, h4, h5, h6⟩ := read_fin h
  unfold Format.div
  rw [e2, read_one]
  unfold Datum.quotient
  simp only [Bool.false_xor]
  by_cases h0 : n = 0
  · subst h0
    rw [if_pos rfl, if_neg (by decide)]
    refine ⟨_, rfl, ?_⟩
    exact order_zero (r := 9218868437227405312) (by decide) (Nat.le_refl _)
  · rw [if_neg h0]
    have hl : n.log2 < 53 := (Nat.log2_lt h0).2 (by simpa using h6)
    have hm : (4503599627370496 : Nat).log2 = 52 := by decide +kernel
    have hfb : double.fractionBits = 52 := rfl
    have hj : j ≤ -53 := by
      by_cases hc : n < 4503599627370496
      · have := h5 hc; omega
      · have h7 : 2 ^ 52 * pw (j + 1074).toNat ≤ n * pw (j + 1074).toNat := Nat.mul_le_mul_right _ (by rw [show (2 : Nat) ^ 52 = 4503599627370496 by decide]; omega)
        rw [pw_add, ← pw_eq, ← units_pw, h4] at h7
        have ht := T1_half'
        have h8 : pw (52 + (j + 1074).toNat) ≤ pw 1073 := by omega
        have h9 : 52 + (j + 1074).toNat ≤ 1073 := by
          apply Nat.le_of_not_lt
          intro hh
          have h10 := pw_le (show 1073 + 1 ≤ 52 + (j + 1074).toNat from hh)
          rw [pw_succ] at h10
          have := pw_pos 1073
          omega
        omega
    simp only [hm, hfb]
    refine ⟨_, rfl, ?_⟩
    rw [write_num _ _ _ (by omega)]
    have hq : 1 ≤ 4503599627370496 <<< (52 + 2 + n.log2 - 52) / n := by
      rw [Nat.shiftLeft_eq]
      apply (Nat.le_div_iff_mul_le (by omega)).2
      rw [Nat.one_mul]
      have h11 : n < 2 ^ (n.log2 + 1) := Nat.lt_log2_self
      have h12 : (2 : Nat) ^ (n.log2 + 1) ≤ 2 ^ (52 + 2 + n.log2 - 52) := Nat.pow_le_pow_right (by decide) (by omega)
      omega
    have hu : ∀ m i, 1 ≤ m → units m i ≠ 0 := by
      intro m i hm e
      unfold units at e
      have hp : 0 < 2 ^ (i + 1074).toNat := Nat.pow_pos (by decide)
      rcases Nat.mul_eq_zero.1 e with e | e <;> omega
    have hr := rung_pos (hu (2 * (4503599627370496 <<< (52 + 2 + n.log2 - 52) / n) + (4503599627370496 <<< (52 + 2 + n.log2 - 52) % n != 0).toNat) (-52 - j - ((52 + 2 + n.log2 - 52 : Nat) : Int) - 1) (by omega))
    exact order_zero hr.1 hr.2
/-- what is made 0. -/
theorem even_zero {b : Nat} (h : FinB b) (h0 : double.order (wholeB .even b) 0 = some .eq) : 2 * valR (magB b) ≤ T1 ∧ 2 * valR (magB (wholeB .even b)) ≤ T1 := by
  rw [order_fin (whole_fin .even h).1 zero_fin.1, zero_fin.2, whole_rv .even h] at h0
  have e := Int.compare_eq_eq.1 (Option.some.inj h0)
  have e2 : wholeN .even b * T1 = 0 := by unfold sgnI at e; cases negB b <;> simp at e ⊢ <;> omega
  have hn := even_near (negB b) (valR (magB b))
  refine ⟨?_, by rw [(whole_fin .even h).2.2, e2]; omega⟩
  unfold wholeN at e2
  omega
end Go.Proofs.YtfodeeejolkkfaaGreat
namespace Go.Proofs.YtfodeeejolkkfaaGreat
open Ieee

/-- a number that is an int within the edges. -/
def OkI (b : Nat) : Prop := FinB b ∧ IsWhole b ∧ ¬ rv b < -((9007199254740992 * T1 : Nat) : Int) ∧ ¬ ((9007199254740992 * T1 : Nat) : Int) < rv b
theorem okI_small {b : Nat} (h : OkI b) : (toI b).natAbs ≤ 9007199254740992 := toI_small h.2.1 h.2.2.2 h.2.2.1
theorem read_inf {b : Nat} (h : b < 18446744073709551616) (hm : magB b = 9218868437227405312) : double.read b = .infinity (negB b) := by
  have hw := word_self h
  rw [hm] at hw
  rw [← hw]
  cases negB b <;> decide +kernel
theorem nan_order {b : Nat} (h : isNaNB b = true) (c : Nat) : double.order b c = none := by
  have hn := read_nan (b := b)
  rw [h] at hn
  unfold Format.order
  generalize double.read b = d at *
  cases d with
  | nan s t => cases double.read c <;> rfl
  | number s m e => cases hn
  | infinity s => cases hn
theorem kinds {b : Nat} (h : b < 18446744073709551616) : isNaNB b = true ∨ (isNaNB b = false ∧ magB b = 9218868437227405312) ∨ (isNaNB b = false ∧ FinB b) := by
  unfold isNaNB FinB
  rcases Nat.lt_trichotomy (magB b) 9218868437227405312 with h1 | h1 | h1
  · exact Or.inr (Or.inr ⟨decide_eq_false (by omega), h, h1⟩)
  · exact Or.inr (Or.inl ⟨decide_eq_false (by omega), h1⟩)
  · exact Or.inl (decide_eq_true h1)
theorem fin_not_nan {b : Nat} (h : FinB b) : isNaNB b = false := decide_eq_false (by have := h.2; omega)
theorem inf_not_ok {b : Nat} (h : magB b = 9218868437227405312) : ¬ OkI b := fun g => by have := g.1.2; omega
theorem nan_not_ok {b : Nat} (h : isNaNB b = true) : ¬ OkI b := fun g => by rw [fin_not_nan g.1] at h; cases h
theorem int_split {b : Nat} (h : b < 18446744073709551616) :
    (isNaNB b = true ∧ ¬ OkI b ∧ double.order b 14069245235905429504 = none ∧ double.order b 4845873199050653696 = none) ∨
    (isNaNB b = false ∧ ¬ OkI b ∧ double.order b 14069245235905429504 = some .lt ∧ double.order b 4845873199050653696 = some .lt) ∨
    (isNaNB b = false ∧ ¬ OkI b ∧ double.order b 14069245235905429504 = some .gt ∧ double.order b 4845873199050653696 = some .gt) ∨
    (isNaNB b = false ∧ FinB b ∧ (OkI b ↔ IsWhole b) ∧ (double.order b 14069245235905429504 = some .gt ∨ double.order b 14069245235905429504 = some .eq) ∧ (double.order b 4845873199050653696 = some .lt ∨ double.order b 4845873199050653696 = some .eq)) := by
  rcases kinds h with hn | ⟨hn, hi⟩ | ⟨hn, hf⟩
  · exact Or.inl ⟨hn, nan_not_ok hn, nan_order hn _, nan_order hn _⟩
  · have hr := read_inf h hi
    have hk := inf_not_ok hi
    have o1 : double.order b 14069245235905429504 = (Datum.infinity (negB b)).order (double.read 14069245235905429504) := by unfold Format.order; rw [hr]
    have o2 : double.order b 4845873199050653696 = (Datum.infinity (negB b)).order (double.read 4845873199050653696) := by unfold Format.order; rw [hr]
    rw [o1, o2]
    cases negB b
    · exact Or.inr (Or.inr (Or.inl ⟨hn, hk, by decide +kernel, by decide +kernel⟩))
    · exact Or.inr (Or.inl ⟨hn, hk, by decide +kernel, by decide +kernel⟩)
  · have o1 := order_fin hf top_rv.2.2.1
    have o2 := order_fin hf top_rv.1
    rw [top_rv.2.2.2] at o1
    rw [top_rv.2.1] at o2
    have hT : (0 : Int) < ((9007199254740992 * T1 : Nat) : Int) := by have := T1_pos; omega
    have hok : OkI b ↔ (IsWhole b ∧ ¬ rv b < -((9007199254740992 * T1 : Nat) : Int) ∧ ¬ ((9007199254740992 * T1 : Nat) : Int) < rv b) := ⟨fun h => h.2, fun h => ⟨hf, h⟩⟩
    generalize ((9007199254740992 * T1 : Nat) : Int) = E at *
    rcases Int.lt_trichotomy (rv b) (-E) with h1 | h1 | h1
    · refine Or.inr (Or.inl ⟨hn, fun g => (hok.1 g).2.1 h1, ?_, ?_⟩)
      · rw [o1, Int.compare_eq_lt.2 h1]
      · rw [o2, Int.compare_eq_lt.2 (by omega)]
    · refine Or.inr (Or.inr (Or.inr ⟨hn, hf, ?_, Or.inr ?_, Or.inl ?_⟩))
      · rw [hok]; exact ⟨fun h => h.1, fun h => ⟨h, by omega, by omega⟩⟩
      · rw [o1, Int.compare_eq_eq.2 h1]
      · rw [o2, Int.compare_eq_lt.2 (by omega)]
    · rcases Int.lt_trichotomy (rv b) E with h2 | h2 | h2
      · refine Or.inr (Or.inr (Or.inr ⟨hn, hf, ?_, Or.inl ?_, Or.inl ?_⟩))
        · rw [hok]; exact ⟨fun h => h.1, fun h => ⟨h, by omega, by omega⟩⟩
        · rw [o1, Int.compare_eq_gt.2 h1]
        · rw [o2, Int.compare_eq_lt.2 h2]
      · refine Or.inr (Or.inr (Or.inr ⟨hn, hf, ?_, Or.inl ?_, Or.inr ?_⟩))
        · rw [hok]; exact ⟨fun h => h.1, fun h => ⟨h, by omega, by omega⟩⟩
        · rw [o1, Int.compare_eq_gt.2 h1]
        · rw [o2, Int.compare_eq_eq.2 h2]
      · refine Or.inr (Or.inr (Or.inl ⟨hn, fun g => (hok.1 g).2.2 h2, ?_, ?_⟩))
        · rw [o1, Int.compare_eq_gt.2 h1]
        · rw [o2, Int.compare_eq_gt.2 h2]
/-- the whole number next to a number; any NaN is the one. -/
def rndF (b : Nat) : Nat := if isNaNB b then nanB else wholeB .even b
theorem inf_whole (way : Toward) {b : Nat} (h : b < 18446744073709551616) (hm : magB b = 9218868437227405312) : wholeB way b = b := by
  have hw := word_self h
  unfold wholeB
  rw [read_inf h hm]
  rw [hm] at hw
  exact hw
theorem rndF_fin {b : Nat} (h : FinB b) : rndF b = wholeB .even b := if_neg (by rw [fin_not_nan h]; decide)
theorem rndF_can {b : Nat} (h : b < 18446744073709551616) : CanB (rndF b) := by
  unfold rndF
  rcases kinds h with hn | ⟨hn, hi⟩ | ⟨hn, hf⟩
  · rw [if_pos hn]; exact ⟨by decide, fun _ => rfl⟩
  · rw [hn, if_neg (by decide), inf_whole .even h hi]; exact ⟨h, fun g => by rw [hn] at g; cases g⟩
  · rw [hn, if_neg (by decide)]
    have hw := (whole_fin .even hf).1
    exact ⟨hw.1, fun g => by rw [fin_not_nan hw] at g; cases g⟩
theorem rndF_again {b : Nat} (h : b < 18446744073709551616) : rndF (rndF b) = rndF b := by
  rcases kinds h with hn | ⟨hn, hi⟩ | ⟨hn, hf⟩
  · have : rndF b = nanB := if_pos hn
    rw [this]; exact if_pos (by decide +kernel)
  · have : rndF b = b := by unfold rndF; rw [hn, if_neg (by decide), inf_whole .even h hi]
    rw [this, this]
  · rw [rndF_fin hf, rndF_fin (whole_fin .even hf).1, whole_self .even (whole_fin .even hf).1 (whole_is .even hf)]
theorem inf_self {b : Nat} (h : b < 18446744073709551616) (hm : magB b = 9218868437227405312) : double.sub b b = none := by
  unfold Format.sub
  rw [read_inf h hm]
  cases negB b <;> rfl
end Go.Proofs.YtfodeeejolkkfaaGreat
namespace Go.Proofs.YtfodeeejolkkfaaGreat
open Go.RowKit Go.Lib Ieee

theorem cls_nan {v : Nat} (h : isNaNB v = true) : clsV v = 1 := by
  unfold clsV
  rw [if_pos (of_decide_eq_true h)]
theorem neg_ge {v : Nat} (h : negB v = true) : 9223372036854775808 ≤ v := of_decide_eq_true h
theorem neg_lt {v : Nat} (h : negB v = false) : ¬ 9223372036854775808 ≤ v := of_decide_eq_false h
theorem clsM_inf {m : Nat} (h : m = 9218868437227405312) : clsM m = 9 := by unfold clsM; rw [if_neg (by omega), if_pos h]
theorem cls_inf {v : Nat} (h : magB v = 9218868437227405312) : clsV v = if negB v then 2 else 9 := by
  unfold clsV
  rw [if_neg (by omega), clsM_inf h]
  cases hn : negB v with
  | true => rw [if_pos (neg_ge hn)]; rfl
  | false => rw [if_neg (neg_lt hn)]; rfl
theorem clsM_fin {m : Nat} (h : m < 9218868437227405312) : 6 ≤ clsM m ∧ clsM m ≤ 8 ∧ (clsM m = 6 ↔ m = 0) := by
  unfold clsM
  rw [if_neg (by omega), if_neg (by omega)]
  by_cases h0 : m = 0
  · rw [if_pos h0]; exact ⟨by omega, by omega, by simp [h0]⟩
  · rw [if_neg h0]
    by_cases h1 : m < 4503599627370496
    · rw [if_pos h1]; exact ⟨by omega, by omega, by constructor <;> intro h <;> omega⟩
    · rw [if_neg h1]; exact ⟨by omega, by omega, by constructor <;> intro h <;> omega⟩
theorem cls_fin {v : Nat} (h : FinB v) : 3 ≤ clsV v ∧ clsV v ≤ 8 ∧ (clsV v = 5 → v = 9223372036854775808) := by
  have hm := h.2
  obtain ⟨h1, h2, h3⟩ := clsM_fin hm
  unfold clsV
  rw [if_neg (by omega)]
  by_cases hs : 9223372036854775808 ≤ v
  · rw [if_pos hs]
    refine ⟨by omega, by omega, fun h5 => ?_⟩
    have h0 := h3.1 (by omega)
    unfold magB at h0
    have := h.1
    omega
  · rw [if_neg hs]
    exact ⟨by omega, by omega, fun h5 => by omega⟩
theorem read_isnan {b : Nat} (h : isNaNB b = true) : ∃ s t, double.read b = .nan s t := by
  have := @read_nan b
  rw [h] at this
  cases hr : double.read b with
  | nan s t => exact ⟨s, t, rfl⟩
  | number s m i => rw [hr] at this; cases this
  | infinity s => rw [hr] at this; cases this
theorem add_nan_l {a b : Nat} (h : isNaNB a = true) : addC a b = nanB := by
  obtain ⟨s, t, hr⟩ := read_isnan h
  have : double.add a b = none := by unfold Format.add; rw [hr]; rfl
  unfold addC; rw [this]
theorem add_nan_r {a b : Nat} (h : isNaNB b = true) : addC a b = nanB := by
  obtain ⟨s, t, hr⟩ := read_isnan h
  have : double.add a b = none := by unfold Format.add; rw [hr]; cases double.read a <;> rfl
  unfold addC; rw [this]
/-- an infinity. -/
def infS (s : Bool) : Nat := if s then 18442240474082181120 else 9218868437227405312
theorem write_inf (s : Bool) : double.write (.infinity s) = infS s := by cases s <;> decide +kernel
theorem canB_inf (s : Bool) : canB (infS s) = infS s := by cases s <;> decide +kernel
theorem mag_inf (s : Bool) : magB (infS s) = 9218868437227405312 := by cases s <;> decide +kernel
theorem cls_infS (s : Bool) : clsV (infS s) = if s then 2 else 9 := by cases s <;> decide +kernel
theorem infS_lt (s : Bool) : infS s < 18446744073709551616 := by cases s <;> decide
theorem add_inf_apart {a b : Nat} (ha : a < 18446744073709551616) (hb : b < 18446744073709551616) (h1 : magB a = 9218868437227405312) (h2 : magB b = 9218868437227405312) (hn : negB a ≠ negB b) : addC a b = nanB := by
  have : double.add a b = none := by unfold Format.add; rw [read_inf ha h1, read_inf hb h2]; simp [Datum.sum, hn]
  unfold addC; rw [this]
theorem add_inf_same {a b : Nat} (ha : a < 18446744073709551616) (hb : b < 18446744073709551616) (h1 : magB a = 9218868437227405312) (h2 : magB b = 9218868437227405312) (hn : negB a = negB b) : addC a b = infS (negB a) := by
  have : double.add a b = some (infS (negB a)) := by unfold Format.add; rw [read_inf ha h1, read_inf hb h2, hn]; simp [Datum.sum, write_inf]
  unfold addC; rw [this]; exact canB_inf _
theorem add_inf_l {a b : Nat} (ha : a < 18446744073709551616) (h1 : magB a = 9218868437227405312) (h2 : FinB b) : addC a b = infS (negB a) := by
  obtain ⟨m, i, hr, -⟩ := read_fin h2
  have : double.add a b = some (infS (negB a)) := by unfold Format.add; rw [read_inf ha h1, hr]; simp [Datum.sum, write_inf]
  unfold addC; rw [this]; exact canB_inf _
theorem add_inf_r {a b : Nat} (hb : b < 18446744073709551616) (h2 : magB b = 9218868437227405312) (h1 : FinB a) : addC a b = infS (negB b) := by
  obtain ⟨m, i, hr, -⟩ := read_fin h1
  have : double.add a b = some (infS (negB b)) := by unfold Format.add; rw [read_inf hb h2, hr]; simp [Datum.sum, write_inf]
  unfold addC; rw [this]; exact canB_inf _
theorem add_zeros : addC 9223372036854775808 9223372036854775808 = 9223372036854775808 := by decide +kernel
theorem run_sub_inf {b : Nat} (h : Ieee.double.sub b b = none) (w : World) : ∃ c, isNaNB c = true ∧ (binOp .sub 42 (.float .f64 b) (.float .f64 b)).run Tryz.prog w = .ok (.float .f64 c) w.drew := by
  refine ⟨(Question.nanBits .f64 b b).cut (w.tape w.drawn (.nanBits .f64 b b)), ?_, ?_⟩
  · show isNaNB ((w.tape w.drawn (.nanBits .f64 b b) % 2) * 9223372036854775808 + 9218868437227405312 + 1 + (w.tape w.drawn (.nanBits .f64 b b) / 2) % 4503599627370495) = true
    have h1 : w.tape w.drawn (.nanBits .f64 b b) % 2 < 2 := Nat.mod_lt _ (by decide)
    have h2 : (w.tape w.drawn (.nanBits .f64 b b) / 2) % 4503599627370495 < 4503599627370495 := Nat.mod_lt _ (by decide)
    generalize w.tape w.drawn (.nanBits .f64 b b) % 2 = u at *
    generalize (w.tape w.drawn (.nanBits .f64 b b) / 2) % 4503599627370495 = q at *
    unfold isNaNB magB
    refine decide_eq_true ?_
    rcases (by omega : u = 0 ∨ u = 1) with rfl | rfl <;> omega
  · have h' : FloatKind.f64.format.sub b b = none := h
    simp [binOp, Op.floatArith, h', Question.forced]
theorem nan_ne_zero {c : Nat} (h : isNaNB c = true) : (FloatKind.f64.format.order c 0 != some .eq) = true := by
  have : FloatKind.f64.format.order c 0 = none := nan_order h 0
  rw [this]; rfl
end Go.Proofs.YtfodeeejolkkfaaGreat
namespace Go.Proofs.YtfodeeejolkkfaaGreat
open Go.RowKit Go.Lib Ieee

/-- a number turned in its sign. -/
def negF (b : Nat) : Nat := b ^^^ 2 ^ 63
theorem negF_pos {b : Nat} (h : b < 9223372036854775808) : negF b = 9223372036854775808 + b := by
  unfold negF
  apply Nat.eq_of_testBit_eq
  intro i
  rw [Nat.testBit_xor, Nat.testBit_two_pow, show 9223372036854775808 + b = 2 ^ 63 + b from rfl]
  rcases Nat.lt_trichotomy i 63 with h1 | h1 | h1
  · rw [Nat.testBit_two_pow_add_gt h1]
    have : ¬ 63 = i := by omega
    simp [this]
  · subst h1
    rw [Nat.testBit_two_pow_add_eq]
    simp
  · have e : 2 ^ 64 ≤ 2 ^ i := Nat.pow_le_pow_right (by decide) h1
    have e64 : (2 : Nat) ^ 64 = 18446744073709551616 := by decide
    have e63 : (2 : Nat) ^ 63 = 9223372036854775808 := by decide
    rw [Nat.testBit_lt_two_pow (x := b) (by omega), Nat.testBit_lt_two_pow (x := 2 ^ 63 + b) (by omega)]
    have : ¬ 63 = i := by omega
    simp [this]
theorem negF_neg {b : Nat} (h0 : 9223372036854775808 ≤ b) (h : b < 18446744073709551616) : negF b = b - 9223372036854775808 := by
  obtain ⟨c, rfl⟩ : ∃ c, b = 9223372036854775808 + c := ⟨b - 9223372036854775808, by omega⟩
  have hc : c < 9223372036854775808 := by omega
  rw [← negF_pos hc]
  unfold negF
  rw [Nat.xor_assoc, Nat.xor_self, Nat.xor_zero]
  have := negF_pos hc
  unfold negF at this
  rw [this]; omega
theorem negF_lt {b : Nat} (h : b < 18446744073709551616) : negF b < 18446744073709551616 := by
  by_cases h0 : 9223372036854775808 ≤ b
  · rw [negF_neg h0 h]; omega
  · rw [negF_pos (by omega)]; omega
theorem signW : double.signWeight = 9223372036854775808 := by decide
theorem read_negF {b : Nat} (h : b < 18446744073709551616) : double.read (negF b) = (double.read b).opposite := by
  have e1 : negF b % 9223372036854775808 = b % 9223372036854775808 := by
    by_cases h0 : 9223372036854775808 ≤ b
    · rw [negF_neg h0 h]; omega
    · rw [negF_pos (by omega)]; omega
  have e2 : (negF b / 9223372036854775808 % 2 == 1) = !(b / 9223372036854775808 % 2 == 1) := by
    by_cases h0 : 9223372036854775808 ≤ b
    · rw [negF_neg h0 h, show (b - 9223372036854775808) / 9223372036854775808 % 2 = 0 by omega, show b / 9223372036854775808 % 2 = 1 by omega]; rfl
    · rw [negF_pos (by omega), show (9223372036854775808 + b) / 9223372036854775808 % 2 = 1 by omega, show b / 9223372036854775808 % 2 = 0 by omega]; rfl
  unfold Format.read
  rw [signW, e1, e2]
  simp only []
  split
  · rfl
  · split
    · rfl
    · split <;> rfl
theorem add_neg (b : Nat) {x : Nat} (h : x < 18446744073709551616) : double.add b (negF x) = double.sub b x := by
  unfold Format.add Format.sub
  rw [read_negF h]
/-- five. -/
def fiveB : Nat := 4617315517961601024
theorem five_fin : FinB fiveB := by unfold FinB; decide
theorem order_some {d : Nat} (h : d < 18446744073709551616) (hn : isNaNB d = false) : ∃ o, double.order d 0 = some o := by
  rcases kinds h with hN | ⟨-, hI⟩ | ⟨-, hF⟩
  · rw [hN] at hn; cases hn
  · obtain ⟨m, i, hr, -⟩ := read_fin zero_fin.1
    refine ⟨if negB d then .lt else .gt, ?_⟩
    unfold Format.order
    rw [read_inf h hI, hr]
    rfl
  · exact ⟨_, order_fin hF zero_fin.1⟩
/-- what five less a number is. -/
theorem five_sub {x : Nat} (hx : FinB x) : ∃ d, double.sub fiveB x = some d ∧ addC fiveB (negF x) = d ∧ isNaNB d = false ∧ (rv x ≤ rv fiveB → (double.order d 0 == some .gt || double.order d 0 == some .eq) = true) ∧ (rv fiveB < rv x → (double.order d 0 == some .gt || double.order d 0 == some .eq) = false) := by
  obtain ⟨g, hs, hp, hn⟩ := sub_rv five_fin hx
  have hle : rungOf (rv fiveB - rv x).natAbs ≤ 9218868437227405312 := by
    by_cases h0 : (rv fiveB - rv x).natAbs = 0
    · rw [h0]; decide
    · exact (rung_pos h0).2
  have hmag : magB (double.word g (rungOf (rv fiveB - rv x).natAbs)) = rungOf (rv fiveB - rv x).natAbs := mag_word (by omega)
  have hnan : isNaNB (double.word g (rungOf (rv fiveB - rv x).natAbs)) = false := by
    unfold isNaNB
    rw [hmag]
    exact decide_eq_false (by omega)
  have hz0 : rv fiveB - rv x = 0 → double.order (double.word g (rungOf (rv fiveB - rv x).natAbs)) 0 = some .eq := by
    intro h0
    rw [h0]
    cases g <;> decide +kernel
  have hlt : (rv fiveB - rv x).natAbs ≠ 0 → (double.order (double.word g (rungOf (rv fiveB - rv x).natAbs)) 0 == some .lt) = g := fun h0 => order_zero (rung_pos h0).1 (rung_pos h0).2
  have hsome := order_some (word_lt (s := g) (by omega : rungOf (rv fiveB - rv x).natAbs < 9223372036854775808)) hnan
  refine ⟨_, hs, ?_, hnan, ?_, ?_⟩
  · unfold addC
    rw [add_neg _ hx.1, hs]
    show canB _ = _
    unfold canB
    rw [if_neg (by rw [hnan]; decide)]
  · intro hl
    by_cases h0 : rv fiveB - rv x = 0
    · rw [hz0 h0]; rfl
    · have hg := hp (by omega)
      have := hlt (by omega)
      rw [hg] at this hsome ⊢
      obtain ⟨o, ho⟩ := hsome
      rw [ho] at this ⊢
      cases o
      · cases this
      · rfl
      · rfl
  · intro hl
    have hg := hn (by omega)
    have := hlt (by omega)
    rw [hg] at this ⊢
    rw [beq_iff_eq] at this
    rw [this]
    rfl
set_option maxRecDepth 100000 in
theorem abs_any (b : Nat) (w : World) (h : b < 18446744073709551616) : Calls Tryz.prog 93 #[.float .f64 b] w fun e w' => e = .returned (.float .f64 (magB b)) ∧ w = w' := by
  have hb := run_bits b
  have hf := fun n : Int => run_from n
  have hA := andNot_sign h
  clear h
  go_enter Tryz.func93, Tryz.ntmps93
  go_wp2_with fail
  go_ret
  exact ⟨rfl, rfl⟩
set_option maxRecDepth 100000 in
theorem isinf_any (b : Nat) (w : World) (h : b < 18446744073709551616) (t : Bool) (ht : (FloatKind.f64.format.order (magB b) 9218868437227405311 == some .gt) = t) : Calls Tryz.prog 52 #[.float .f64 b, .int .i64 0] w fun e w' => e = .returned (.bool t) ∧ w = w' := by
  have HA := Lib.hid (abs_any b w h)
  clear h
  generalize magB b = m at *
  go_enter Tryz.func52, Tryz.ntmps52
  go_wp2_with fail
  refine HA.out.mono ?_
  rintro e w1 ⟨rfl, rfl⟩
  go_wp2_with fail
  go_ret
  exact ⟨by first | rfl | rw [← ht], rfl⟩
end Go.Proofs.YtfodeeejolkkfaaGreat
namespace Go.Proofs.YtfodeeejolkkfaaGreat
open Go.RowKit Go.Lib Ieee

/-- not below nought. -/
def ge0 (x : Nat) : Bool := (FloatKind.f64.format.order x 0 == some .gt || FloatKind.f64.format.order x 0 == some .eq)
set_option maxRecDepth 100000 in
set_option maxHeartbeats 1000000 in
theorem cmove_bad (w : World) {P x : Nat} (hx : x < 18446744073709551616) (h : ge0 x = false ∨ (ge0 x = true ∧ (FloatKind.f64.format.order (magB x) 9218868437227405311 == some .gt) = true)) :
    Calls Tryz.prog 25 #[.pointer (some ⟨P, 0, none⟩), .int .i64 1, .int .i64 3, .int .i64 4, .float .f64 x] w fun e w' => e = .returned (.int .i64 15) ∧ w = w' := by
  rcases h with h | ⟨h, hi⟩
  · unfold ge0 at h
    clear hx
    go_enter Tryz.func25, Tryz.ntmps25
    go_wp2_with fail
    go_ret
    exact ⟨rfl, rfl⟩
  · have HI := Lib.hid (isinf_any x w hx true hi)
    unfold ge0 at h
    clear hx hi
    go_enter Tryz.func25, Tryz.ntmps25
    go_wp2_with fail
    refine HI.out.mono ?_
    rintro e w1 ⟨rfl, rfl⟩
    go_wp2_with fail
    go_ret
    exact ⟨rfl, rfl⟩
set_option maxRecDepth 100000 in
set_option maxHeartbeats 2000000 in
theorem cmove_in (w : World) {base : Nat} {d : Ids} {f : Int → List Nat} {n k x : Nat} (h : Sn w base d f n k) (hn : n ≤ 8) (hk : k ≤ 14) (hx : x < 18446744073709551616) (hg : ge0 x = true) (hi : (FloatKind.f64.format.order (magB x) 9218868437227405311 == some .gt) = false) :
    Calls Tryz.prog 25 #[.pointer (some ⟨d.P, 0, none⟩), .int .i64 1, .int .i64 3, .int .i64 4, .float .f64 x] w fun e w' =>
      ∃ f' n' k', e = .returned (.int .i64 (if ge0 (addC (getF f 3) (negF x)) = true then 0 else 15)) ∧ Ow base w w' ∧ Sn w' base d f' n' k' ∧ n' ≤ n + 4 ∧ k' ≤ k + 2 ∧ getF f' 3 = addC (getF f 3) (negF x) := by
  have HI := Lib.hid (fun w => isinf_any x w hx false hi)
  have hneg : ∀ b w, (Op.unary .neg (.float .f64 b)).run Tryz.prog w = .ok (.float .f64 (negF b)) w := fun _ _ => rfl
  have hg3 : getF (setF f 3 (addC (getF f 3) (negF x))) 3 = addC (getF f 3) (negF x) := by rw [getF_set _ _ _ _ (fun b => (h.five b).1), if_pos rfl]
  unfold ge0 at hg
  clear hx hi
  cases hy : ge0 (addC (getF f 3) (negF x)) with
  | true =>
    unfold ge0 at hy
    rw [if_pos rfl]
    go_enter Tryz.func25, Tryz.ntmps25
    go_wp2_with fail
    refine (HI.out w).mono ?_
    rintro e w1 ⟨rfl, rfl⟩
    go_wp2_with fail
    refine (cadd_in w (m := 3) h (by omega) (by omega) (by omega)).mono ?_
    rintro e w2 ⟨rfl, o2, h2⟩
    go_wp2_with fail
    refine (cadd_in w2 (m := 4) h2 (by omega) (by omega) (by omega)).mono ?_
    rintro e w3 ⟨rfl, o3, h3⟩
    have o4 := o2.trans o3
    have hfin : getF (setF (setF f 3 (addC (getF f 3) (negF x))) 4 (addC (getF (setF f 3 (addC (getF f 3) (negF x))) 4) x)) 3 = addC (getF f 3) (negF x) := by
      rw [getF_set _ _ _ _ (fun b => (h2.five b).1), if_neg (by omega)]
      exact hg3
    have HFin := Lib.hid hfin
    clear hfin hg3 h h2 o2 o3
    go_wp2_with fail
    go_ret
    exact ⟨_, _, _, rfl, o4, h3, by omega, by omega, HFin.out⟩
  | false =>
    unfold ge0 at hy
    rw [if_neg (by decide)]
    have HG3 := Lib.hid hg3
    clear hg3
    go_enter Tryz.func25, Tryz.ntmps25
    go_wp2_with fail
    refine (HI.out w).mono ?_
    rintro e w1 ⟨rfl, rfl⟩
    go_wp2_with fail
    refine (cadd_in w (m := 3) h (by omega) (by omega) (by omega)).mono ?_
    rintro e w2 ⟨rfl, o2, h2⟩
    clear h
    go_wp2_with fail
    go_ret
    exact ⟨_, _, _, rfl, o2, h2, by omega, by omega, HG3.out⟩
theorem ge0_nan {x : Nat} (h : isNaNB x = true) : ge0 x = false := by
  have : FloatKind.f64.format.order x 0 = none := nan_order h 0
  unfold ge0; rw [this]; rfl
theorem order_inf {x : Nat} (h : x < 18446744073709551616) (hI : magB x = 9218868437227405312) : FloatKind.f64.format.order x 0 = some (if negB x then .lt else .gt) := by
  obtain ⟨m, i, hr, -⟩ := read_fin zero_fin.1
  show double.order x 0 = _
  unfold Format.order
  rw [read_inf h hI, hr]
  rfl
theorem order_zero_fin {x : Nat} (h : FinB x) : FloatKind.f64.format.order x 0 = some (compare (rv x) 0) := by
  have := order_fin h zero_fin.1
  rw [zero_fin.2] at this
  exact this
theorem ge0_fin {x : Nat} (h : FinB x) : ge0 x = decide (0 ≤ rv x) := by
  unfold ge0
  rw [order_zero_fin h]
  rcases Int.lt_trichotomy (rv x) 0 with h1 | h1 | h1
  · rw [Int.compare_eq_lt.2 h1, decide_eq_false (by omega)]; rfl
  · rw [h1]; rfl
  · rw [Int.compare_eq_gt.2 h1, decide_eq_true (by omega)]; rfl
theorem mag_max {x : Nat} (h : FinB x) : (FloatKind.f64.format.order (magB x) 9218868437227405311 == some .gt) = false := by
  obtain ⟨h1, h2, -, -⟩ := fin_num h.2
  obtain ⟨h3, h4, -, -⟩ := fin_num (show 9218868437227405311 < 9218868437227405312 by decide)
  have ho : FloatKind.f64.format.order (magB x) 9218868437227405311 = some (compare (rv (magB x)) (rv 9218868437227405311)) := order_fin h1 h3
  have hm := valR_mono (show magB x ≤ 9218868437227405311 by have := h.2; omega)
  rw [ho, h2, h4, beq_eq_false_iff_ne]
  intro e
  have := Int.compare_eq_gt.1 (Option.some.inj e)
  omega
theorem mag_max_inf : (FloatKind.f64.format.order 9218868437227405312 9218868437227405311 == some .gt) = true := by decide +kernel
end Go.Proofs.YtfodeeejolkkfaaGreat
namespace Go.Proofs.YtfodeeejolkkfaaGreat
open Go.RowKit Go.Lib Ieee

theorem Sn.more {w : World} {base : Nat} {d : Ids} {f : Int → List Nat} {n k n' k' : Nat} (h : Sn w base d f n k) (hn : n ≤ n') (hk : k ≤ k') : Sn w base d f n' k' := by
  obtain ⟨L, h1, h2, h3⟩ := h.st.buf
  obtain ⟨s, m, xs, a1, a2, a3⟩ := h.st.vw
  obtain ⟨v, l, b1, b2, b3⟩ := h.st.sp
  exact ⟨⟨h.st.sta, h.st.tx, ⟨L, h1, by omega, h3⟩, ⟨s, m, xs, a1, by omega, a3⟩, ⟨v, l, b1, by omega, b3⟩, h.st.high⟩, h.five⟩
/-- what a place is refused with. -/
def wantE (i : Int) : Int := if i < 0 ∨ 1290 ≤ i then 2 else 0
theorem cget_any (w : World) {base : Nat} {d : Ids} {f : Int → List Nat} {n k : Nat} {i : Int} (h : Sn w base d f n k) (hn : n ≤ 11) :
    Calls Tryz.prog 21 #[.pointer (some ⟨d.P, 0, none⟩), .int .i64 1, .int .i64 i] w fun e w' => ∃ x, e = .returned (.tuple #[.float .f64 x, .int .i64 (wantE i)]) ∧ Ow base w w' ∧ Sn w' base d f (n + 1) k := by
  by_cases hi : i < 0 ∨ 1290 ≤ i
  · refine (cget_out w h hi).mono ?_
    rintro e w' ⟨rfl, k1⟩
    exact ⟨0, by unfold wantE; rw [if_pos hi], Ow.of_chg k1, (h.keep k1).more (by omega) (Nat.le_refl _)⟩
  · obtain ⟨m, rfl⟩ : ∃ m : Nat, i = m := ⟨i.toNat, by omega⟩
    refine (cget_in w (m := m) h hn (by omega)).mono ?_
    rintro e w' ⟨rfl, k1, h1⟩
    exact ⟨_, by unfold wantE; rw [if_neg hi], k1, h1⟩
theorem cset_any (w : World) {base : Nat} {d : Ids} {f : Int → List Nat} {n k x : Nat} {i : Int} (h : Sn w base d f n k) (hn : n ≤ 11) (hk : k ≤ 15) (hx : x < 18446744073709551616) :
    Calls Tryz.prog 19 #[.pointer (some ⟨d.P, 0, none⟩), .int .i64 1, .int .i64 i, .float .f64 x] w fun e w' => ∃ f', e = .returned (.int .i64 (wantE i)) ∧ Ow base w w' ∧ Sn w' base d f' (n + 1) (k + 1) := by
  by_cases hi : i < 0 ∨ 1290 ≤ i
  · refine (cset_out w h hi).mono ?_
    rintro e w' ⟨rfl, k1⟩
    exact ⟨f, by unfold wantE; rw [if_pos hi], Ow.of_chg k1, (h.keep k1).more (by omega) (by omega)⟩
  · obtain ⟨m, rfl⟩ : ∃ m : Nat, i = m := ⟨i.toNat, by omega⟩
    refine (cset_in w (m := m) h hn hk (by omega) hx).mono ?_
    rintro e w' ⟨rfl, k1, h1⟩
    exact ⟨_, by unfold wantE; rw [if_neg hi], k1, h1⟩
theorem cmove_same (w : World) {base : Nat} {d : Ids} {f : Int → List Nat} {n k x : Nat} (h : Sn w base d f n k) (hx : x < 18446744073709551616) (hb : ge0 x = false ∨ (ge0 x = true ∧ (FloatKind.f64.format.order (magB x) 9218868437227405311 == some .gt) = true)) :
    Calls Tryz.prog 25 #[.pointer (some ⟨d.P, 0, none⟩), .int .i64 1, .int .i64 3, .int .i64 4, .float .f64 x] w fun e w' => e = .returned (.int .i64 15) ∧ Ow base w w' ∧ Sn w' base d f n k :=
  (cmove_bad w hx hb).mono fun e w' ⟨he, hw⟩ => by subst hw; exact ⟨he, Ow.refl _ _, h⟩
theorem canFive : canB 4617315517961601024 = 4617315517961601024 := by decide +kernel
set_option maxRecDepth 100000 in
set_option maxHeartbeats 8000000 in
theorem law5_any (i : Int) (v x : Nat) (w : World) (hv : v < 18446744073709551616) (hx : x < 18446744073709551616) :
    Calls Tryz.prog 5 #[.int .i64 i, .int .u64 v, .float .f64 x] w fun e w' => e = .returned (.bool true) ∧ Chg [] w w' := by
  have HVc := Lib.hid (canB_can hv).1
  have HV := Lib.hid (fun w => rfrom_any v w hv)
  have HX := Lib.hid hx
  have H5 := Lib.hid (show 4617315517961601024 < 18446744073709551616 by decide)
  clear hv hx
  generalize canB v = X at *
  go_enter Tryz.func5, Tryz.ntmps5
  go_wp2_with fail
  refine (fresh_any w).mono ?_
  rintro e w1 ⟨base, d, K, G, rfl, k1, hn, hw, hb⟩
  have c0 : w1.cell? ⟨K, 0, none⟩ = some (.pointer (some ⟨d.P, 0, none⟩)) := cell_is hw 0 rfl
  have c2 : w1.cell? ⟨K, 2, none⟩ = some (.int .i64 1) := cell_is hw 2 rfl
  go_wp2_with fail
  go_region_held3 (fun wx => wx.cell? ⟨K, 0, none⟩ = some (.pointer (some ⟨d.P, 0, none⟩)) ∧ wx.cell? ⟨K, 2, none⟩ = some (.int .i64 1))
    (first | (exact ⟨c0, c2⟩) | (exact ⟨cell_is hw3 0 rfl, cell_is hw3 2 rfl⟩))
    (first
      | (go_at_call 19; refine (cset_in w1.drew (m := 3) (hn.keep (Chg.refl [] w1).drew) (by omega) (by omega) (by omega) H5.out).mono ?_; rintro e w3 ⟨rfl, o3, h3⟩; have hw3 := hw.keep ((Ow.of_chg (base := base) (Chg.refl [] w1).drew).trans o3)))
  have k3 := Ow.chg0 k1.drew o3 hb
  clear c0 c2 hn hw o3
  have c0 : w3.cell? ⟨K, 0, none⟩ = some (.pointer (some ⟨d.P, 0, none⟩)) := cell_is hw3 0 rfl
  have c2 : w3.cell? ⟨K, 2, none⟩ = some (.int .i64 1) := cell_is hw3 2 rfl
  go_wp2_with fail
  go_region_held3 (fun wx => wx.cell? ⟨K, 0, none⟩ = some (.pointer (some ⟨d.P, 0, none⟩)) ∧ wx.cell? ⟨K, 2, none⟩ = some (.int .i64 1))
    (first | (exact ⟨c0, c2⟩) | (exact ⟨cell_is hw4 0 rfl, cell_is hw4 2 rfl⟩))
    (first
      | (go_at_call 21; refine (cget_any w3.drew (i := i) (h3.keep (Chg.refl [] w3).drew) (by omega)).mono ?_; rintro e w4 ⟨y0, rfl, o4, h4⟩; have hw4 := hw3.keep ((Ow.of_chg (base := base) (Chg.refl [] w3).drew).trans o4)))
  have k4 := Ow.chg0 k3.drew o4 hb
  clear c0 c2 h3 hw3 o4
  have hq : ∀ z : Int, (z != z) = false := fun z => bne_self_eq_false z
  go_upto_region 6 with fail
  go_cut [52] from 47 (fun g wx => g = .bool (decide (i < 0 ∨ 1290 ≤ i)) ∧ wx = w4)
  case first =>
    rcases (show i < 0 ∨ (¬ i < 0 ∧ 1290 ≤ i) ∨ (¬ i < 0 ∧ ¬ 1290 ≤ i) by omega) with h | ⟨h, h'⟩ | ⟨h, h'⟩
    · have e1 : decide (i < 0) = true := decide_eq_true h
      have hf : decide (i < 0 ∨ 1290 ≤ i) = true := decide_eq_true (Or.inl h)
      go_wp2_with fail
      go_meet
      exact ⟨congrArg Value.bool hf.symm, rfl⟩
    · have e1 : decide (i < 0) = false := decide_eq_false h
      have e2 : decide (1290 ≤ i) = true := decide_eq_true h'
      have hf : decide (i < 0 ∨ 1290 ≤ i) = true := decide_eq_true (Or.inr h')
      go_wp2_with fail
      go_meet
      exact ⟨congrArg Value.bool (by first | exact hf.symm | (rw [hf]; assumption) | (rw [hf, e2])), rfl⟩
    · have e1 : decide (i < 0) = false := decide_eq_false h
      have e2 : decide (1290 ≤ i) = false := decide_eq_false h'
      have hf : decide (i < 0 ∨ 1290 ≤ i) = false := decide_eq_false (by omega)
      go_wp2_with fail
      go_meet
      exact ⟨congrArg Value.bool (by first | exact hf.symm | (rw [hf]; assumption) | (rw [hf, e2])), rfl⟩
  case rest =>
    obtain ⟨rfl, rfl⟩ := hcut
    rename World => wd
    go_upto_if 52 with fail
    go_cut [11] from 53 (fun e wx => e = .int .i64 (wantE i) ∧ wx = wd)
    case first =>
      by_cases h : i < 0 ∨ 1290 ≤ i
      · have e1 : decide (i < 0 ∨ 1290 ≤ i) = true := decide_eq_true h
        have hwe : wantE i = 2 := if_pos h
        go_wp2_with fail
        go_meet
        exact ⟨by rw [hwe], rfl⟩
      · have e1 : decide (i < 0 ∨ 1290 ≤ i) = false := decide_eq_false h
        have hwe : wantE i = 0 := if_neg h
        go_wp2_with fail
        go_meet
        exact ⟨by rw [hwe], rfl⟩
    case rest =>
      obtain ⟨rfl, rfl⟩ := hcut
      rename World => we
      have c0 : we.cell? ⟨K, 0, none⟩ = some (.pointer (some ⟨d.P, 0, none⟩)) := cell_is hw4 0 rfl
      have c2 : we.cell? ⟨K, 2, none⟩ = some (.int .i64 1) := cell_is hw4 2 rfl
      go_wp2_with fail
      go_region_held3 (fun wx => wx.cell? ⟨K, 0, none⟩ = some (.pointer (some ⟨d.P, 0, none⟩)) ∧ wx.cell? ⟨K, 2, none⟩ = some (.int .i64 1))
        (first | (exact ⟨c0, c2⟩) | (exact ⟨cell_is hw5 0 rfl, cell_is hw5 2 rfl⟩))
        (first
          | (go_at_call 18; refine (HV.out we.drew).mono ?_; rintro e w2 ⟨rfl, rfl⟩)
          | (go_at_call 19; refine (cset_any we.drew (i := i) (h4.keep (Chg.refl [] we).drew) (by omega) (by omega) HVc.out).mono ?_; rintro e w5 ⟨f5, rfl, o5, h5⟩; have hw5 := hw4.keep ((Ow.of_chg (base := base) (Chg.refl [] we).drew).trans o5)))
      have k5 := Ow.chg0 k4.drew o5 hb
      clear c0 c2 h4 hw4 o5
      have c0 : w5.cell? ⟨K, 0, none⟩ = some (.pointer (some ⟨d.P, 0, none⟩)) := cell_is hw5 0 rfl
      have c2 : w5.cell? ⟨K, 2, none⟩ = some (.int .i64 1) := cell_is hw5 2 rfl
      go_wp2_with fail
      go_region_held3 (fun wx => wx.cell? ⟨K, 0, none⟩ = some (.pointer (some ⟨d.P, 0, none⟩)) ∧ wx.cell? ⟨K, 2, none⟩ = some (.int .i64 1))
        (first | (exact ⟨c0, c2⟩) | (exact ⟨cell_is hw6 0 rfl, cell_is hw6 2 rfl⟩))
        (first
          | (go_at_call 19; refine (cset_in w5.drew (m := 3) (h5.keep (Chg.refl [] w5).drew) (by omega) (by omega) (by omega) H5.out).mono ?_; rintro e w6 ⟨rfl, o6, h6⟩; have hw6 := hw5.keep ((Ow.of_chg (base := base) (Chg.refl [] w5).drew).trans o6)))
      have k6 := Ow.chg0 k5.drew o6 hb
      have hg3 : getF (setF f5 3 (canB 4617315517961601024)) 3 = fiveB := by rw [getF_set _ _ _ _ (fun b => (h5.five b).1), if_pos rfl, canFive]; rfl
      clear c0 c2 h5 hw5 o6
      generalize setF f5 3 (canB 4617315517961601024) = f6 at *
      -- CASES
      have h55 : (FloatKind.f64.format.order fiveB 4617315517961601024 == some .eq) = true := by decide +kernel
      rcases kinds HX.out with hN | ⟨hNN, hI⟩ | ⟨hNN, hF⟩
      · have HBad := Lib.hid (Or.inl (ge0_nan hN) : ge0 x = false ∨ (ge0 x = true ∧ (FloatKind.f64.format.order (magB x) 9218868437227405311 == some .gt) = true))
        have q1 : (FloatKind.f64.format.order x x != some .eq) = true := (neq_self x).trans hN
        clear hN
        have c0 : w6.cell? ⟨K, 0, none⟩ = some (.pointer (some ⟨d.P, 0, none⟩)) := cell_is hw6 0 rfl
        have c2 : w6.cell? ⟨K, 2, none⟩ = some (.int .i64 1) := cell_is hw6 2 rfl
        go_wp2_with fail
        go_region_held3 (fun wx => wx.cell? ⟨K, 0, none⟩ = some (.pointer (some ⟨d.P, 0, none⟩)) ∧ wx.cell? ⟨K, 2, none⟩ = some (.int .i64 1))
          (first | (exact ⟨c0, c2⟩) | (exact ⟨cell_is hw7 0 rfl, cell_is hw7 2 rfl⟩))
          (first
            | (go_at_call 25; refine (cmove_same w6.drew (base := base) (d := d) (f := f6) (h6.keep (Chg.refl [] w6).drew) HX.out HBad.out).mono ?_; rintro e w7 ⟨rfl, o7, h7⟩; have hw7 := hw6.keep ((Ow.of_chg (base := base) (Chg.refl [] w6).drew).trans o7); have hg7 := hg3; have k7 := Ow.chg0 k6.drew o7 hb))
        clear c0 c2 h6 hw6
        have c0 : w7.cell? ⟨K, 0, none⟩ = some (.pointer (some ⟨d.P, 0, none⟩)) := cell_is hw7 0 rfl
        have c2 : w7.cell? ⟨K, 2, none⟩ = some (.int .i64 1) := cell_is hw7 2 rfl
        go_wp2_with fail
        go_region_held3 (fun wx => wx.cell? ⟨K, 0, none⟩ = some (.pointer (some ⟨d.P, 0, none⟩)) ∧ wx.cell? ⟨K, 2, none⟩ = some (.int .i64 1))
          (first | (exact ⟨c0, c2⟩) | (exact ⟨cell_is hw8 0 rfl, cell_is hw8 2 rfl⟩))
          (first
            | (go_at_call 21; refine (cget_in w7.drew (m := 3) (h7.keep (Chg.refl [] w7).drew) (by omega) (by omega)).mono ?_; rintro e w8 ⟨rfl, o8, h8⟩; have hw8 := hw7.keep ((Ow.of_chg (base := base) (Chg.refl [] w7).drew).trans o8)))
        have k8 := Ow.chg0 k7.drew o8 hb
        clear c0 c2 hw7 hw8 h7 h8 o8
        try rw [hg7]
        go_wp2_with fail
        refine (awake_any w8).mono ?_
        rintro e w9 ⟨rfl, k9⟩
        have kE := (k8).then k9
        go_wp2_with fail
        go_ret
        exact ⟨rfl, kE⟩
      · have hbad : ge0 x = false ∨ (ge0 x = true ∧ (FloatKind.f64.format.order (magB x) 9218868437227405311 == some .gt) = true) := by
          cases hn : negB x with
          | true => left; unfold ge0; rw [order_inf HX.out hI, hn]; rfl
          | false => right; refine ⟨?_, by rw [hI]; exact mag_max_inf⟩; unfold ge0; rw [order_inf HX.out hI, hn]; rfl
        have HBad := Lib.hid hbad
        have q1 : (FloatKind.f64.format.order x x != some .eq) = false := (neq_self x).trans hNN
        have HSub := Lib.hid (inf_self HX.out hI)
        clear hNN hI hbad
        have c0 : w6.cell? ⟨K, 0, none⟩ = some (.pointer (some ⟨d.P, 0, none⟩)) := cell_is hw6 0 rfl
        have c2 : w6.cell? ⟨K, 2, none⟩ = some (.int .i64 1) := cell_is hw6 2 rfl
        go_wp2_with fail
        go_region_held3 (fun wx => wx.cell? ⟨K, 0, none⟩ = some (.pointer (some ⟨d.P, 0, none⟩)) ∧ wx.cell? ⟨K, 2, none⟩ = some (.int .i64 1))
          (first | (exact ⟨c0, c2⟩) | (exact ⟨cell_is hw7 0 rfl, cell_is hw7 2 rfl⟩))
          (first
            | (go_at_call 25; refine (cmove_same w6.drew (base := base) (d := d) (f := f6) (h6.keep (Chg.refl [] w6).drew) HX.out HBad.out).mono ?_; rintro e w7 ⟨rfl, o7, h7⟩; have hw7 := hw6.keep ((Ow.of_chg (base := base) (Chg.refl [] w6).drew).trans o7); have hg7 := hg3; have k7 := Ow.chg0 k6.drew o7 hb))
        clear c0 c2 h6 hw6
        have c0 : w7.cell? ⟨K, 0, none⟩ = some (.pointer (some ⟨d.P, 0, none⟩)) := cell_is hw7 0 rfl
        have c2 : w7.cell? ⟨K, 2, none⟩ = some (.int .i64 1) := cell_is hw7 2 rfl
        go_wp2_with fail
        go_region_held3 (fun wx => wx.cell? ⟨K, 0, none⟩ = some (.pointer (some ⟨d.P, 0, none⟩)) ∧ wx.cell? ⟨K, 2, none⟩ = some (.int .i64 1))
          (first | (exact ⟨c0, c2⟩) | (exact ⟨cell_is hw8 0 rfl, cell_is hw8 2 rfl⟩))
          (first
            | (go_at_call 21; refine (cget_in w7.drew (m := 3) (h7.keep (Chg.refl [] w7).drew) (by omega) (by omega)).mono ?_; rintro e w8 ⟨rfl, o8, h8⟩; have hw8 := hw7.keep ((Ow.of_chg (base := base) (Chg.refl [] w7).drew).trans o8)))
        have k8 := Ow.chg0 k7.drew o8 hb
        clear c0 c2 hw7 hw8 h7 h8 o8
        try rw [hg7]
        obtain ⟨c, hcn, hs⟩ := run_sub_inf HSub.out w8
        have hoc := nan_ne_zero hcn
        clear hcn
        go_wp2_with fail
        refine (awake_any w8.drew).mono ?_
        rintro e w9 ⟨rfl, k9⟩
        have kE := (k8.drew).then k9
        go_wp2_with fail
        go_ret
        exact ⟨rfl, kE⟩
      · have q1 : (FloatKind.f64.format.order x x != some .eq) = false := (neq_self x).trans hNN
        obtain ⟨z, hz, hz0⟩ := self_sub hF
        have hrz : ∀ w, (binOp .sub 42 (.float .f64 x) (.float .f64 x)).run Tryz.prog w = .ok (.float .f64 z) w := fun w => run_float_arith w .sub 42 .f64 x x z hz
        have q2 : (FloatKind.f64.format.order z 0 != some .eq) = false := by rw [show FloatKind.f64.format.order z 0 = some .eq from hz0]; rfl
        have hg0 := ge0_fin hF
        have ho0 := order_zero_fin hF
        by_cases hneg : rv x < 0
        · have hbad : ge0 x = false ∨ (ge0 x = true ∧ (FloatKind.f64.format.order (magB x) 9218868437227405311 == some .gt) = true) := Or.inl (by rw [hg0]; exact decide_eq_false (by omega))
          have HBad := Lib.hid hbad
          have q3 : (FloatKind.f64.format.order x 0 == some .lt) = true := by rw [ho0, Int.compare_eq_lt.2 hneg]; rfl
          clear hNN hF hz hz0 hg0 ho0 hneg hbad
          have c0 : w6.cell? ⟨K, 0, none⟩ = some (.pointer (some ⟨d.P, 0, none⟩)) := cell_is hw6 0 rfl
          have c2 : w6.cell? ⟨K, 2, none⟩ = some (.int .i64 1) := cell_is hw6 2 rfl
          go_wp2_with fail
          go_region_held3 (fun wx => wx.cell? ⟨K, 0, none⟩ = some (.pointer (some ⟨d.P, 0, none⟩)) ∧ wx.cell? ⟨K, 2, none⟩ = some (.int .i64 1))
            (first | (exact ⟨c0, c2⟩) | (exact ⟨cell_is hw7 0 rfl, cell_is hw7 2 rfl⟩))
            (first
              | (go_at_call 25; refine (cmove_same w6.drew (base := base) (d := d) (f := f6) (h6.keep (Chg.refl [] w6).drew) HX.out HBad.out).mono ?_; rintro e w7 ⟨rfl, o7, h7⟩; have hw7 := hw6.keep ((Ow.of_chg (base := base) (Chg.refl [] w6).drew).trans o7); have hg7 := hg3; have k7 := Ow.chg0 k6.drew o7 hb))
          clear c0 c2 h6 hw6
          have c0 : w7.cell? ⟨K, 0, none⟩ = some (.pointer (some ⟨d.P, 0, none⟩)) := cell_is hw7 0 rfl
          have c2 : w7.cell? ⟨K, 2, none⟩ = some (.int .i64 1) := cell_is hw7 2 rfl
          go_wp2_with fail
          go_region_held3 (fun wx => wx.cell? ⟨K, 0, none⟩ = some (.pointer (some ⟨d.P, 0, none⟩)) ∧ wx.cell? ⟨K, 2, none⟩ = some (.int .i64 1))
            (first | (exact ⟨c0, c2⟩) | (exact ⟨cell_is hw8 0 rfl, cell_is hw8 2 rfl⟩))
            (first
              | (go_at_call 21; refine (cget_in w7.drew (m := 3) (h7.keep (Chg.refl [] w7).drew) (by omega) (by omega)).mono ?_; rintro e w8 ⟨rfl, o8, h8⟩; have hw8 := hw7.keep ((Ow.of_chg (base := base) (Chg.refl [] w7).drew).trans o8)))
          have k8 := Ow.chg0 k7.drew o8 hb
          clear c0 c2 hw7 hw8 h7 h8 o8
          try rw [hg7]
          go_wp2_with fail
          refine (awake_any w8).mono ?_
          rintro e w9 ⟨rfl, k9⟩
          have kE := (k8).then k9
          go_wp2_with fail
          go_ret
          exact ⟨rfl, kE⟩
        · have q3 : (FloatKind.f64.format.order x 0 == some .lt) = false := by
            rw [ho0, beq_eq_false_iff_ne]
            intro e
            have := Int.compare_eq_lt.1 (Option.some.inj e)
            omega
          have HGe := Lib.hid (show ge0 x = true by rw [hg0]; exact decide_eq_true (by omega))
          have HInf := Lib.hid (mag_max hF)
          obtain ⟨d5, hs5, ha5, hn5, hp5, hm5⟩ := five_sub hF
          have hrd : ∀ w, (binOp .sub 42 (.float .f64 4617315517961601024) (.float .f64 x)).run Tryz.prog w = .ok (.float .f64 d5) w := fun w => run_float_arith w .sub 42 .f64 4617315517961601024 x d5 hs5
          have q5 : (FloatKind.f64.format.order d5 d5 == some .eq) = true := by
            have := (neq_self d5).trans hn5
            show (Ieee.double.order d5 d5 == some .eq) = true
            rw [show (Ieee.double.order d5 d5 != some .eq) = !(Ieee.double.order d5 d5 == some .eq) from rfl] at this
            simpa using this
          have ho5 : FloatKind.f64.format.order x 4617315517961601024 = some (compare (rv x) (rv fiveB)) := order_fin hF five_fin
          by_cases hgt : rv fiveB < rv x
          · have q4 : (FloatKind.f64.format.order x 4617315517961601024 == some .gt) = true := by rw [ho5, Int.compare_eq_gt.2 hgt]; rfl
            have HY := Lib.hid (show ge0 d5 = false from hm5 hgt)
            have HA := Lib.hid ha5
            clear hNN hF hz hz0 hg0 ho0 hneg hs5 ha5 hn5 hp5 hm5 ho5 hgt
            have c0 : w6.cell? ⟨K, 0, none⟩ = some (.pointer (some ⟨d.P, 0, none⟩)) := cell_is hw6 0 rfl
            have c2 : w6.cell? ⟨K, 2, none⟩ = some (.int .i64 1) := cell_is hw6 2 rfl
            go_wp2_with fail
            go_region_held3 (fun wx => wx.cell? ⟨K, 0, none⟩ = some (.pointer (some ⟨d.P, 0, none⟩)) ∧ wx.cell? ⟨K, 2, none⟩ = some (.int .i64 1))
              (first | (exact ⟨c0, c2⟩) | (exact ⟨cell_is hw7 0 rfl, cell_is hw7 2 rfl⟩))
              (first
                | (go_at_call 25; refine (cmove_in w6.drew (h6.keep (Chg.refl [] w6).drew) (by omega) (by omega) HX.out HGe.out HInf.out).mono ?_; rintro e w7 ⟨f7, n7, k7', rfl, o7, h7, hn7, hk7, hg7⟩; have hw7 := hw6.keep ((Ow.of_chg (base := base) (Chg.refl [] w6).drew).trans o7); have k7 := Ow.chg0 k6.drew o7 hb; rw [hg3, HA.out, HY.out, if_neg (by decide)]; rw [hg3, HA.out] at hg7))
            clear c0 c2 h6 hw6
            have c0 : w7.cell? ⟨K, 0, none⟩ = some (.pointer (some ⟨d.P, 0, none⟩)) := cell_is hw7 0 rfl
            have c2 : w7.cell? ⟨K, 2, none⟩ = some (.int .i64 1) := cell_is hw7 2 rfl
            go_wp2_with fail
            go_region_held3 (fun wx => wx.cell? ⟨K, 0, none⟩ = some (.pointer (some ⟨d.P, 0, none⟩)) ∧ wx.cell? ⟨K, 2, none⟩ = some (.int .i64 1))
              (first | (exact ⟨c0, c2⟩) | (exact ⟨cell_is hw8 0 rfl, cell_is hw8 2 rfl⟩))
              (first
                | (go_at_call 21; refine (cget_in w7.drew (m := 3) (h7.keep (Chg.refl [] w7).drew) (by omega) (by omega)).mono ?_; rintro e w8 ⟨rfl, o8, h8⟩; have hw8 := hw7.keep ((Ow.of_chg (base := base) (Chg.refl [] w7).drew).trans o8)))
            have k8 := Ow.chg0 k7.drew o8 hb
            clear c0 c2 hw7 hw8 h7 h8 o8
            try rw [hg7]
            go_wp2_with fail
            refine (awake_any w8).mono ?_
            rintro e w9 ⟨rfl, k9⟩
            have kE := (k8).then k9
            go_wp2_with fail
            go_ret
            exact ⟨rfl, kE⟩
          · have q4 : (FloatKind.f64.format.order x 4617315517961601024 == some .gt) = false := by
              rw [ho5, beq_eq_false_iff_ne]
              intro e
              have := Int.compare_eq_gt.1 (Option.some.inj e)
              omega
            have HY := Lib.hid (show ge0 d5 = true from hp5 (by omega))
            have HA := Lib.hid ha5
            clear hNN hF hz hz0 hg0 ho0 hneg hs5 ha5 hn5 hp5 hm5 ho5 hgt
            have c0 : w6.cell? ⟨K, 0, none⟩ = some (.pointer (some ⟨d.P, 0, none⟩)) := cell_is hw6 0 rfl
            have c2 : w6.cell? ⟨K, 2, none⟩ = some (.int .i64 1) := cell_is hw6 2 rfl
            go_wp2_with fail
            go_region_held3 (fun wx => wx.cell? ⟨K, 0, none⟩ = some (.pointer (some ⟨d.P, 0, none⟩)) ∧ wx.cell? ⟨K, 2, none⟩ = some (.int .i64 1))
              (first | (exact ⟨c0, c2⟩) | (exact ⟨cell_is hw7 0 rfl, cell_is hw7 2 rfl⟩))
              (first
                | (go_at_call 25; refine (cmove_in w6.drew (h6.keep (Chg.refl [] w6).drew) (by omega) (by omega) HX.out HGe.out HInf.out).mono ?_; rintro e w7 ⟨f7, n7, k7', rfl, o7, h7, hn7, hk7, hg7⟩; have hw7 := hw6.keep ((Ow.of_chg (base := base) (Chg.refl [] w6).drew).trans o7); have k7 := Ow.chg0 k6.drew o7 hb; rw [hg3, HA.out, HY.out, if_pos rfl]; rw [hg3, HA.out] at hg7))
            clear c0 c2 h6 hw6
            have c0 : w7.cell? ⟨K, 0, none⟩ = some (.pointer (some ⟨d.P, 0, none⟩)) := cell_is hw7 0 rfl
            have c2 : w7.cell? ⟨K, 2, none⟩ = some (.int .i64 1) := cell_is hw7 2 rfl
            go_wp2_with fail
            go_region_held3 (fun wx => wx.cell? ⟨K, 0, none⟩ = some (.pointer (some ⟨d.P, 0, none⟩)) ∧ wx.cell? ⟨K, 2, none⟩ = some (.int .i64 1))
              (first | (exact ⟨c0, c2⟩) | (exact ⟨cell_is hw8 0 rfl, cell_is hw8 2 rfl⟩))
              (first
                | (go_at_call 21; refine (cget_in w7.drew (m := 3) (h7.keep (Chg.refl [] w7).drew) (by omega) (by omega)).mono ?_; rintro e w8 ⟨rfl, o8, h8⟩; have hw8 := hw7.keep ((Ow.of_chg (base := base) (Chg.refl [] w7).drew).trans o8)))
            have k8 := Ow.chg0 k7.drew o8 hb
            clear c0 c2 hw7 hw8 h7 h8 o8
            try rw [hg7]
            go_wp2_with fail
            refine (awake_any w8).mono ?_
            rintro e w9 ⟨rfl, k9⟩
            have kE := (k8).then k9
            go_wp2_with fail
            go_ret
            exact ⟨rfl, kE⟩
end Go.Proofs.YtfodeeejolkkfaaGreat
namespace Go.Proofs.YtfodeeejolkkfaaGreat
open Go.ChangeShapes Go.WideShapes Go.ChangeAt Go.RowKit Go.Deep Go.Joins
set_option maxRecDepth 100000

theorem ownk : ownKnob Tryz.prog.godebug = none := by kernel_rfl
theorem laidOut0 : laidOutB Tryz.prog = true := by kernel_rfl
theorem read22 : Tryz.prog.readableRec 22 = true := by kernel_rfl
theorem read23 : Tryz.prog.readableRec 23 = true := by kernel_rfl
theorem typesN : 100 < Tryz.prog.types.size := by have h : decide (100 < Tryz.prog.types.size) = true := by kernel_rfl
                                                  exact of_decide_eq_true h
theorem cells5 : Tryz.prog.cellsOf 5 = 1 := by kernel_rfl
theorem cells42 : Tryz.prog.cellsOf 42 = 1 := by kernel_rfl

/-- what a contract with 'Below' gives of a row's sentence. -/
theorem post_below {H : Type} {enc : TypeId × Value → H} {f : Func} {s : ChangeSpec} {W W' : World} {args : Array Value} {v : Value} {ds gs : List (DataW H)} {before pa pv : List MemPlace} (hb : Below W.heap.size W W')
    (hW : DataW.Whole enc Tryz.prog f.params.toList s.vars false W args.toList ds gs before)
    (hres : DataW.TrodAll enc Tryz.prog W' W.heap.size (fun _ => false) false f.resultTypes.toList (v.resultList f.resultTypes.size) (s.fn H (ds ++ gs)).results [])
    (hargs : DataW.TrodAll enc Tryz.prog W' 0 (fun b => decide (b < W.heap.size)) true f.params.toList args.toList (s.fn H (ds ++ gs)).args pa)
    (hvars : DataW.TrodVars enc Tryz.prog W' (fun b => decide (b < W.heap.size)) s.vars (s.fn H (ds ++ gs)).vars pv) :
    s.post enc Tryz.prog f false true false false W args v W' :=
  ⟨ds, gs, before, [], pa, pv, hW, hres, hargs, hvars, hb.frame _, fun h => by cases h⟩

section
variable {H : Type} {enc : TypeId × Value → H} {W : World}
theorem bytes_trod {fuel : Nat} {v : Value} {y : DataW H × List MemPlace} (hf : DataW.trod enc Tryz.prog W 0 (fun _ => true) true fuel 23 [v] = some y) :
    ∃ (a0 : Option Addr) (m c : Nat) (l : List UInt8), v = .slice a0 m c ∧ l.length = m ∧ m ≤ c ∧ c ≤ maxLen ∧ Bs W a0 l := by
  rcases open_ints Tryz.underlying23 Tryz.underlying5 cells5 hf with ⟨hcs, hx⟩ | ⟨a, len, cap, zs, hcs, _, hl, hm, hz, hx, hcell, hwz⟩
  · simp only [List.cons.injEq, and_true] at hcs
    exact ⟨none, 0, 0, [], hcs, rfl, Nat.le_refl _, Nat.zero_le _, Or.inl rfl⟩
  · simp only [List.cons.injEq, and_true] at hcs
    simp only [if_true] at hz
    have hlen : ((zs.take len).map fun n => UInt8.ofNat n.toNat).length = len := by simp; omega
    refine ⟨some a, len, cap, (zs.take len).map fun n => UInt8.ofNat n.toNat, hcs, hlen, by omega, hm, ?_⟩
    by_cases h0 : len = 0
    · left; apply List.eq_nil_of_length_eq_zero; rw [hlen, h0]
    obtain ⟨b, off, sp⟩ := a
    have hsp : sp = none := by
      have := World.cell?_spot (hcell 0 (by omega))
      simpa [Addr.add] using this
    subst hsp
    refine Or.inr ⟨b, off, rfl, ?_, fun j hj => ?_⟩
    · have := World.block_lt_of_cell? _ _ (hcell 0 (by omega))
      rw [add_lit] at this; exact this
    · have hj' : j < len := by rw [hlen] at hj; exact hj
      have h2 := hcell j (by omega)
      rw [add_lit] at h2
      rw [h2]
      have hr := byte_of_wf (hwz (zs.getD j 0) (by rw [List.getD_eq_getElem?_getD, List.getElem?_eq_getElem (by omega)]; exact List.getElem_mem _))
      have hg : zs.getD j 0 = zs[j]'(by omega) := by rw [List.getD_eq_getElem?_getD, List.getElem?_eq_getElem (by omega)]; rfl
      rw [hg] at hr ⊢
      simp only [List.getElem_map, List.getElem_take]
      rw [UInt8.toNat_ofNat']
      congr 2
      omega
/-- an argument of type []byte, opened. -/
theorem open_bytes {base : Nat} {v1 : Value} {d1 : DataW H} {p1 : List MemPlace} (hval : Value.okWide Tryz.prog W .any base 23 v1) (h1 : DataW.Trod enc Tryz.prog W 0 (fun _ => true) true 23 v1 d1 p1) :
    ∃ (a0 : Option Addr) (m c : Nat) (l : List UInt8), v1 = .slice a0 m c ∧ l.length = m ∧ m ≤ c ∧ c ≤ maxLen ∧ Bs W a0 l := by
  obtain ⟨a1, len, cap, rfl⟩ := okWide_slice Tryz.underlying23 hval
  obtain ⟨fuel, hf⟩ := h1
  exact bytes_trod (y := (d1, p1)) (by simpa [Value.cells] using hf)
theorem float_cell {fuel : Nat} {v : Value} {x : DataW H × List MemPlace} (hf : DataW.trod enc Tryz.prog W 0 (fun _ => true) true fuel 42 [v] = some x) : ∃ b, v = .float .f64 b ∧ b < 18446744073709551616 := by
  cases fuel with
  | zero => simp [DataW.trod] at hf
  | succ n =>
    simp only [DataW.trod, Tryz.underlying42] at hf
    cases v with
    | float k' b =>
      by_cases hw : k' = FloatKind.f64 ∧ (Lit.float FloatKind.f64 b).wf = true
      · obtain ⟨rfl, hw⟩ := hw
        exact ⟨b, rfl, by simpa [Lit.wf] using hw⟩
      · simp only [] at hf
        by_cases hk : k' = FloatKind.f64
        · subst hk
          rw [if_neg hw] at hf
          cases hf
        · rw [if_neg (fun h => hk h.1)] at hf
          cases hf
    | _ => simp at hf
/-- an argument of type []float64, opened. -/
theorem open_floats {base : Nat} {v1 : Value} {d1 : DataW H} {p1 : List MemPlace} (hval : Value.okWide Tryz.prog W .any base 22 v1) (h1 : DataW.Trod enc Tryz.prog W 0 (fun _ => true) true 22 v1 d1 p1) :
    ∃ (a0 : Option Addr) (m c : Nat) (l : List Nat), v1 = .slice a0 m c ∧ l.length = m ∧ m ≤ c ∧ c ≤ maxLen ∧ Fl W a0 l ∧ ∀ x ∈ l, x < 18446744073709551616 := by
  obtain ⟨a1, len, cap, rfl⟩ := okWide_slice Tryz.underlying22 hval
  obtain ⟨fuel, hf⟩ := h1
  rcases open_slice1 Tryz.underlying22 cells42 (show DataW.trod enc Tryz.prog W 0 (fun _ => true) true fuel 22 [.slice a1 len cap] = some (d1, p1) by simpa [Value.cells] using hf) with ⟨hcs, hx⟩ | ⟨a, len', cap', m, n, V, D, Pl, hcs, _, hl, hm, hmm, hx, hcell⟩
  · simp only [List.cons.injEq, and_true] at hcs
    exact ⟨none, 0, 0, [], hcs, rfl, Nat.le_refl _, Nat.zero_le _, Or.inl rfl, fun x hx => by cases hx⟩
  · simp only [List.cons.injEq, and_true] at hcs
    simp only [if_true] at hmm
    have hk : ∀ i : Nat, ∃ b, i < len' → (W.cell? (a.add i) = some (.float .f64 b) ∧ b < 18446744073709551616) := by
      intro i
      by_cases hi : i < len'
      · obtain ⟨hc, ht⟩ := hcell i (by omega)
        obtain ⟨b, hb, hlt⟩ := float_cell ht
        exact ⟨b, fun _ => ⟨by rw [hc, hb], hlt⟩⟩
      · exact ⟨0, fun h => absurd h hi⟩
    obtain ⟨f, hf⟩ := Classical.axiomOfChoice hk
    refine ⟨some a, len', cap', (List.range len').map f, hcs, by simp, hl, hm, ?_, ?_⟩
    · by_cases h0 : len' = 0
      · left; rw [h0]; rfl
      · obtain ⟨b, off, sp⟩ := a
        have hsp : sp = none := by
          have := World.cell?_spot (hf 0 (by omega)).1
          simpa [Addr.add] using this
        subst hsp
        refine Or.inr ⟨b, off, rfl, fun j hj => ?_⟩
        have hj' : j < len' := by simpa using hj
        have := (hf j hj').1
        rw [add_lit] at this
        rw [this]
        simp
    · intro x hx
      simp only [List.mem_map, List.mem_range] at hx
      obtain ⟨i, hi, rfl⟩ := hx
      exact (hf i hi).2
end
end Go.Proofs.YtfodeeejolkkfaaGreat
namespace Go.Proofs.YtfodeeejolkkfaaGreat
open Go.ChangeShapes Go.WideShapes Go.ChangeAt Go.RowKit Go.Deep Go.Joins
set_option maxRecDepth 100000
namespace Law5
theorem contract (H : Type) (enc : TypeId × Value → H) (W : World) (base : Nat) (args : Array Value) (ds gs : List (DataW H)) (before : List MemPlace)
    (hval : ∀ (j : Nat) t v, Tryz.f5.params[j]? = some t → args[j]? = some v → Value.okWide Tryz.prog W .any base t v)
    (hW : DataW.Whole enc Tryz.prog Tryz.f5.params.toList Rows.cellsRefusedSpec.vars false W args.toList ds gs before) :
    Calls Tryz.prog 5 args W fun e W' => ∃ v, e = .returned v ∧ Rows.cellsRefusedSpec.post enc Tryz.prog Tryz.f5 false true false false W args v W' := by
  have hW' := hW
  obtain ⟨p, q, hA0, hV, rfl, hfz, hnd⟩ := hW
  have hA : DataW.TrodAll enc Tryz.prog W 0 (fun _ => true) true Tryz.f5.params.toList args.toList ds p := hA0
  rw [Tryz.params5] at hA hval
  obtain ⟨v0, vs0, d0, ds0, p0, q0, hargs, rfl, rfl, h0, r0⟩ := trodAll_cons hA
  obtain ⟨v1, vs1, d1, ds1, p1, q1, rfl, rfl, rfl, h1, r1⟩ := trodAll_cons r0
  obtain ⟨v2, vs2, d2, ds2, p2, q2, rfl, rfl, rfl, h2, r2⟩ := trodAll_cons r1
  obtain ⟨rfl, rfl, rfl⟩ := trodAll_nil r2
  obtain rfl : args = #[v0, v1, v2] := by cases args; simp_all
  obtain ⟨rfl, rfl⟩ := trodVars_none hV
  obtain ⟨a0, rfl, rfl, rfl, w0⟩ := open_int Tryz.underlying3 (hval 0 3 v0 rfl rfl) h0
  obtain ⟨a1, rfl, rfl, rfl, w1⟩ := open_int Tryz.underlying37 (hval 1 37 v1 rfl rfl) h1
  obtain ⟨n2, rfl, rfl, rfl, w2⟩ := open_float Tryz.underlying42 (hval 2 42 v2 rfl rfl) h2
  have b0 := bounds_i64 w0
  have b1 := bounds_u64 w1
  have b2 : n2 < 18446744073709551616 := by simpa [Lit.wf] using w2
  obtain ⟨n1, rfl⟩ : ∃ m : Nat, a1 = m := ⟨a1.toNat, by omega⟩
  refine (law5_any a0 n1 n2 W (by omega) b2).mono fun e W' ⟨he, hc⟩ => ?_
  subst he
  exact ⟨_, rfl, post_below hc.below0 hW' (trodAll_mk1 (shut_bool Tryz.underlying4 _)) (trodAll_cons_mk (shut_int Tryz.underlying3 w0) (trodAll_cons_mk (shut_int Tryz.underlying37 w1) (trodAll_cons_mk (shut_float Tryz.underlying42 w2) trodAll_mk0))) rfl⟩
theorem lifted (os : Os) (started : os.Started) (H : Type) (enc : TypeId × Value → H) :
    ReturnsInHanded {} Tryz.checked os 5 .any (Rows.cellsRefusedSpec.pre6 enc Tryz.prog Tryz.f5 Rows.cellsRefusedRow.domain false) (Rows.cellsRefusedSpec.post enc Tryz.prog Tryz.f5 false true false false) := by
  refine returnsInHanded_of_change (C := Tryz.checked) ownk started (by kernel_rfl) Tryz.func5
    (ChangeSpec.witness6 (enc := enc) (C := Tryz.checked) false ⟨#[], #[.int .i64 0, .int .u64 0, .float .f64 0], []⟩ 8 (by kernel_rfl) (by kernel_rfl) (by kernel_rfl) (by kernel_rfl)) ?_
  intro W base args ds gs before hval0 hW hcnd _
  exact contract H enc W base args ds gs before hval0 hW
theorem over : Rows.cellsRefusedRow.holds Tryz.pinned (OpenSpec.ofChange Rows.cellsRefusedSpec) :=
  OpenClaim.holds_of_wide 5 Tryz.f5 rfl rfl rfl rfl rfl rfl rfl ⟨rfl, rfl, rfl, rfl, rfl⟩ rfl rfl rfl rfl rfl (by kernel_rfl) Tryz.func5 (by kernel_rfl)
    (of_decide_eq_true (by kernel_rfl)) (by unfold Func.isWrapper; first | (rw [if_pos (by decide +kernel)]; kernel_rfl) | (rw [if_neg (by decide +kernel)]; exact ⟨rfl, rfl⟩))
    (fun os started H enc _ => lifted os started H enc)
theorem said : Rows.CellsRefusedSaid := over
end Law5
end Go.Proofs.YtfodeeejolkkfaaGreat
