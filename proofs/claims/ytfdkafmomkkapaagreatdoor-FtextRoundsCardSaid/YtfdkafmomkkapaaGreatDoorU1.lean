/- Plain: hex digits of a fraction, written and read. No program in this text. -/
import Derived.Test.YtfdkafmomkkapaaGreatDoorU0
import Derived.Lib.TrimByte
namespace Go.Proofs.YtfdkafmomkkapaaGreatDoor
open Go.Lib

/-- a number's digits at base 16. -/
def hxD (u : Nat) : List UInt8 := if _h : u < 16 then [hexc u] else hxD (u / 16) ++ [hexc (u % 16)]
termination_by u
decreasing_by omega
/-- n digits of f, the lowest behind. -/
def lowN : Nat → Nat → List UInt8
  | 0, _ => []
  | n + 1, f => lowN n (f / 16) ++ [hexc (f % 16)]
theorem lowN_length (n f : Nat) : (lowN n f).length = n := by
  induction n generalizing f with
  | zero => rfl
  | succ n ih => simp [lowN, ih]
theorem hexN_length (n f : Nat) : (hexN n f).length = n := by
  induction n generalizing f with
  | zero => rfl
  | succ n ih => simp [hexN, ih]
theorem lowN_zero (n : Nat) : lowN n 0 = List.replicate n 48 := by
  induction n with
  | zero => rfl
  | succ n ih => rw [List.replicate_succ']; simp [lowN, ih]; rfl
theorem lowN_head (n f : Nat) (h : f < 16 ^ (n + 1)) : lowN (n + 1) f = hexc (f / 16 ^ n) :: lowN n (f % 16 ^ n) := by
  induction n generalizing f with
  | zero =>
    have h1 : f < 16 := by omega
    have e1 : f % 16 = f := Nat.mod_eq_of_lt h1
    simp [lowN, e1]
  | succ n ih =>
    have e : lowN (n + 1 + 1) f = lowN (n + 1) (f / 16) ++ [hexc (f % 16)] := rfl
    have h16 : f / 16 < 16 ^ (n + 1) := by
      rw [Nat.pow_succ] at h
      omega
    rw [e, ih (f / 16) h16]
    have e2 : lowN (n + 1) (f % 16 ^ (n + 1)) = lowN n (f % 16 ^ (n + 1) / 16) ++ [hexc (f % 16 ^ (n + 1) % 16)] := rfl
    have e3 : f / 16 / 16 ^ n = f / 16 ^ (n + 1) := by rw [Nat.div_div_eq_div_mul, Nat.pow_succ, Nat.mul_comm]
    have e4 : f / 16 % 16 ^ n = f % 16 ^ (n + 1) / 16 := by
      rw [Nat.pow_succ, Nat.mul_comm, Nat.mod_mul_right_div_self]
    have e5 : f % 16 ^ (n + 1) % 16 = f % 16 := Nat.mod_mod_of_dvd _ (by rw [Nat.pow_succ]; exact Nat.dvd_mul_left _ _)
    rw [e2, e3, e4, e5]
    rfl
/-- n digits, from the top. -/
theorem hexN_low (n f : Nat) (hn : n ≤ 13) (h : f < 16 ^ n) : hexN n (f * 16 ^ (13 - n)) = lowN n f := by
  induction n generalizing f with
  | zero => rfl
  | succ n ih =>
    have hp : 0 < 16 ^ n := Nat.pow_pos (by decide)
    have e12 : (281474976710656 : Nat) = 16 ^ n * 16 ^ (12 - n) := by rw [← Nat.pow_add, show n + (12 - n) = 12 by omega]
    have e0 : 13 - (n + 1) = 12 - n := by omega
    have hp2 : 0 < 16 ^ (12 - n) := Nat.pow_pos (by decide)
    have d1 : f * 16 ^ (12 - n) / 281474976710656 = f / 16 ^ n := by
      rw [e12, Nat.mul_div_mul_right _ _ hp2]
    have d2 : f * 16 ^ (12 - n) % 281474976710656 * 16 = f % 16 ^ n * 16 ^ (13 - n) := by
      rw [e12, Nat.mul_mod_mul_right, Nat.mul_assoc, ← Nat.pow_succ, show (12 - n).succ = 13 - n by omega]
    rw [lowN_head n f h, e0]
    show hexc (f * 16 ^ (12 - n) / 281474976710656) :: hexN n (f * 16 ^ (12 - n) % 281474976710656 * 16) = _
    rw [d1, d2, ih _ (by omega) (Nat.mod_lt _ hp)]
theorem hexN_13 {f : Nat} (h : f < 4503599627370496) : hexN 13 f = lowN 13 f := by
  have := hexN_low 13 f (by decide) h
  simpa using this

theorem hexc_nought {d : Nat} (h : d < 16) : hexc d = 48 ↔ d = 0 := by
  have key : ∀ y : Fin 16, hexc y.val = 48 ↔ y.val = 0 := by decide +kernel
  exact key ⟨d, h⟩
/-- a fraction of n digits: nothing is left behind them. -/
def Fits (n f : Nat) : Prop := f < 4503599627370496 ∧ ∃ g, f = g * 16 ^ (13 - n)
theorem fits_top {f : Nat} (h : f < 4503599627370496) : Fits 13 f := ⟨h, f, by simp⟩
theorem fits_next {n f : Nat} (hn : n < 13) (h : Fits (n + 1) f) : Fits n (f % 281474976710656 * 16) := by
  obtain ⟨h1, g, rfl⟩ := h
  refine ⟨by omega, ?_⟩
  have e12 : (281474976710656 : Nat) = 16 ^ n * 16 ^ (12 - n) := by rw [← Nat.pow_add, show n + (12 - n) = 12 by omega]
  refine ⟨g % 16 ^ n, ?_⟩
  rw [show 13 - (n + 1) = 12 - n by omega, e12, Nat.mul_mod_mul_right, Nat.mul_assoc, ← Nat.pow_succ, show (12 - n).succ = 13 - n by omega]
theorem fits_zero {f : Nat} (h : Fits 0 f) : f = 0 := by
  obtain ⟨h1, g, rfl⟩ := h
  cases g with
  | zero => simp
  | succ g => exfalso; have : (16 : Nat) ^ (13 - 0) = 4503599627370496 := by decide
              rw [this] at h1; omega
theorem hexR_succ {n f : Nat} (hf : f ≠ 0) : hexR (n + 1) f = hexc (f / 281474976710656) :: hexR n (f % 281474976710656 * 16) := by
  show (if f = 0 then [] else _) = _
  rw [if_neg hf]
theorem hexR_ne {n f : Nat} (hf : f ≠ 0) (h : Fits n f) : hexR n f ≠ [] := by
  cases n with
  | zero => exact absurd (fits_zero h) hf
  | succ n => rw [hexR_succ hf]; simp
/-- the digits and the noughts that were cut off. -/
theorem hexR_pad (n f : Nat) (hn : n ≤ 13) (h : Fits n f) : (hexR n f).length ≤ n ∧ hexR n f ++ List.replicate (n - (hexR n f).length) 48 = hexN n f := by
  induction n generalizing f with
  | zero => simp [hexR, hexN]
  | succ n ih =>
    by_cases hf : f = 0
    · subst hf
      refine ⟨by simp [hexR], ?_⟩
      have e : ∀ m, hexN m 0 = List.replicate m 48 := by
        intro m
        induction m with
        | zero => rfl
        | succ m ih => rw [List.replicate_succ, ← ih]; rfl
      simp [hexR, e]
    · obtain ⟨i1, i2⟩ := ih _ (by omega) (fits_next (by omega) h)
      have e : hexR (n + 1) f = hexc (f / 281474976710656) :: hexR n (f % 281474976710656 * 16) := hexR_succ hf
      rw [e]
      refine ⟨by simp; omega, ?_⟩
      rw [List.length_cons, Nat.add_sub_add_right, List.cons_append, i2]
      rfl
/-- no nought stands behind. -/
theorem hexR_last (n f : Nat) (hn : n ≤ 13) (h : Fits n f) (hf : f ≠ 0) : ∃ l c, hexR n f = l ++ [c] ∧ c ≠ 48 := by
  induction n generalizing f with
  | zero => exact absurd (fits_zero h) hf
  | succ n ih =>
    have e : hexR (n + 1) f = hexc (f / 281474976710656) :: hexR n (f % 281474976710656 * 16) := hexR_succ hf
    have hn2 := fits_next (by omega) h
    by_cases h0 : f % 281474976710656 * 16 = 0
    · have e0 : hexR n (f % 281474976710656 * 16) = [] := by rw [h0]; cases n <;> simp [hexR]
      have hd : f / 281474976710656 < 16 := by have := h.1; omega
      exact ⟨[], hexc (f / 281474976710656), by rw [e, e0]; rfl, fun ec => by have := (hexc_nought hd).1 ec; omega⟩
    · obtain ⟨l, c, hl, hc⟩ := ih _ (by omega) hn2 h0
      exact ⟨hexc (f / 281474976710656) :: l, c, by rw [e, hl]; rfl, hc⟩
theorem hexF_pad {f : Nat} (h : f < 4503599627370496) : (hexF f).length ≤ 13 ∧ hexF f ++ List.replicate (13 - (hexF f).length) 48 = lowN 13 f := by
  have := hexR_pad 13 f (Nat.le_refl _) (fits_top h)
  rw [hexN_13 h] at this
  exact this
theorem lowN_pad (n f : Nat) (h : f < 16 ^ (n + 1)) : (hxD f).length ≤ n + 1 ∧ List.replicate (n + 1 - (hxD f).length) 48 ++ hxD f = lowN (n + 1) f := by
  induction n generalizing f with
  | zero =>
    have h1 : f < 16 := by omega
    rw [hxD, dif_pos h1]
    simp [lowN, Nat.mod_eq_of_lt h1]
  | succ n ih =>
    by_cases h1 : f < 16
    · rw [hxD, dif_pos h1]
      have e0 : f / 16 = 0 := by omega
      have e : lowN (n + 1 + 1) f = lowN (n + 1) (f / 16) ++ [hexc (f % 16)] := rfl
      rw [e, e0, lowN_zero, Nat.mod_eq_of_lt h1]
      simp
    · rw [hxD, dif_neg h1]
      obtain ⟨i1, i2⟩ := ih (f / 16) (by rw [Nat.pow_succ] at h; omega)
      have e : lowN (n + 1 + 1) f = lowN (n + 1) (f / 16) ++ [hexc (f % 16)] := rfl
      refine ⟨by simp; omega, ?_⟩
      rw [e, ← i2, List.length_append, List.length_singleton, ← List.append_assoc, Nat.add_sub_add_right]
theorem hexF_trim {f : Nat} (h : f < 4503599627370496) (hf : f ≠ 0) : trimRightB (List.replicate (13 - (hxD f).length) 48 ++ hxD f) 48 = hexF f := by
  obtain ⟨p1, p2⟩ := lowN_pad 12 f h
  obtain ⟨q1, q2⟩ := hexF_pad h
  rw [p2, ← q2]
  obtain ⟨l, c, hl, hc⟩ := hexR_last 13 f (Nat.le_refl _) (fits_top h) hf
  have hl' : hexF f = l ++ [c] := hl
  unfold trimRightB
  rw [hl', List.reverse_append, List.reverse_replicate, List.reverse_append, List.reverse_singleton]
  have hd : ∀ (k : Nat) (r : List UInt8), (List.replicate k (48 : UInt8) ++ r).dropWhile (· == 48) = r.dropWhile (· == 48) := by
    intro k r
    induction k with
    | zero => rfl
    | succ k ih => rw [List.replicate_succ, List.cons_append, List.dropWhile_cons_of_pos (by decide), ih]
  rw [hd, List.singleton_append, List.dropWhile_cons_of_neg (by simpa using hc)]
  simp
end Go.Proofs.YtfdkafmomkkapaaGreatDoor
