/- Plain: a number as an int: the ways. No program in this text. -/
import Derived.Test.YtfdkafmomkkapaaGreatDoorR3
namespace Go.Proofs.YtfdkafmomkkapaaGreatDoor
open Ieee

/-- a number that is an int within the edges. -/
def OkI (b : Nat) : Prop := FinB b ∧ IsWhole b ∧ ¬ rv b < -((9007199254740992 * T1 : Nat) : Int) ∧ ¬ ((9007199254740992 * T1 : Nat) : Int) < rv b
theorem okI_small {b : Nat} (h : OkI b) : (toI b).natAbs ≤ 9007199254740992 := toI_small h.2.1 h.2.2.2 h.2.2.1
theorem read_inf {b : Nat} (h : b < 18446744073709551616) (hm : magB b = 9218868437227405312) : double.read b = .infinity (negB b) := by
  have hw := word_self h
  rw [hm] at hw
  rw [← hw]
  cases negB b <;> decide +kernel
theorem nan_order {b : Nat} (h : isNaNB b = true) (c : Nat) : double.order b c = none := by
  have hn := read_nan (b := b)
  rw [h] at hn
  unfold Format.order
  generalize double.read b = d at *
  cases d with
  | nan s t => cases double.read c <;> rfl
  | number s m e => cases hn
  | infinity s => cases hn
theorem kinds {b : Nat} (h : b < 18446744073709551616) : isNaNB b = true ∨ (isNaNB b = false ∧ magB b = 9218868437227405312) ∨ (isNaNB b = false ∧ FinB b) := by
  unfold isNaNB FinB
  rcases Nat.lt_trichotomy (magB b) 9218868437227405312 with h1 | h1 | h1
  · exact Or.inr (Or.inr ⟨decide_eq_false (by omega), h, h1⟩)
  · exact Or.inr (Or.inl ⟨decide_eq_false (by omega), h1⟩)
  · exact Or.inl (decide_eq_true h1)
theorem fin_not_nan {b : Nat} (h : FinB b) : isNaNB b = false := decide_eq_false (by have := h.2; omega)
theorem inf_not_ok {b : Nat} (h : magB b = 9218868437227405312) : ¬ OkI b := fun g => by have := g.1.2; omega
theorem nan_not_ok {b : Nat} (h : isNaNB b = true) : ¬ OkI b := fun g => by rw [fin_not_nan g.1] at h; cases h
theorem int_split {b : Nat} (h : b < 18446744073709551616) :
    (isNaNB b = true ∧ ¬ OkI b ∧ double.order b 14069245235905429504 = none ∧ double.order b 4845873199050653696 = none) ∨
    (isNaNB b = false ∧ ¬ OkI b ∧ double.order b 14069245235905429504 = some .lt ∧ double.order b 4845873199050653696 = some .lt) ∨
    (isNaNB b = false ∧ ¬ OkI b ∧ double.order b 14069245235905429504 = some .gt ∧ double.order b 4845873199050653696 = some .gt) ∨
    (isNaNB b = false ∧ FinB b ∧ (OkI b ↔ IsWhole b) ∧ (double.order b 14069245235905429504 = some .gt ∨ double.order b 14069245235905429504 = some .eq) ∧ (double.order b 4845873199050653696 = some .lt ∨ double.order b 4845873199050653696 = some .eq)) := by
  rcases kinds h with hn | ⟨hn, hi⟩ | ⟨hn, hf⟩
  · exact Or.inl ⟨hn, nan_not_ok hn, nan_order hn _, nan_order hn _⟩
  · have hr := read_inf h hi
    have hk := inf_not_ok hi
    have o1 : double.order b 14069245235905429504 = (Datum.infinity (negB b)).order (double.read 14069245235905429504) := by unfold Format.order; rw [hr]
    have o2 : double.order b 4845873199050653696 = (Datum.infinity (negB b)).order (double.read 4845873199050653696) := by unfold Format.order; rw [hr]
    rw [o1, o2]
    cases negB b
    · exact Or.inr (Or.inr (Or.inl ⟨hn, hk, by decide +kernel, by decide +kernel⟩))
    · exact Or.inr (Or.inl ⟨hn, hk, by decide +kernel, by decide +kernel⟩)
  · have o1 := order_fin hf top_rv.2.2.1
    have o2 := order_fin hf top_rv.1
    rw [top_rv.2.2.2] at o1
    rw [top_rv.2.1] at o2
    have hT : (0 : Int) < ((9007199254740992 * T1 : Nat) : Int) := by have := T1_pos; omega
    have hok : OkI b ↔ (IsWhole b ∧ ¬ rv b < -((9007199254740992 * T1 : Nat) : Int) ∧ ¬ ((9007199254740992 * T1 : Nat) : Int) < rv b) := ⟨fun h => h.2, fun h => ⟨hf, h⟩⟩
    generalize ((9007199254740992 * T1 : Nat) : Int) = E at *
    rcases Int.lt_trichotomy (rv b) (-E) with h1 | h1 | h1
    · refine Or.inr (Or.inl ⟨hn, fun g => (hok.1 g).2.1 h1, ?_, ?_⟩)
      · rw [o1, Int.compare_eq_lt.2 h1]
      · rw [o2, Int.compare_eq_lt.2 (by omega)]
    · refine Or.inr (Or.inr (Or.inr ⟨hn, hf, ?_, Or.inr ?_, Or.inl ?_⟩))
      · rw [hok]; exact ⟨fun h => h.1, fun h => ⟨h, by omega, by omega⟩⟩
      · rw [o1, Int.compare_eq_eq.2 h1]
      · rw [o2, Int.compare_eq_lt.2 (by omega)]
    · rcases Int.lt_trichotomy (rv b) E with h2 | h2 | h2
      · refine Or.inr (Or.inr (Or.inr ⟨hn, hf, ?_, Or.inl ?_, Or.inl ?_⟩))
        · rw [hok]; exact ⟨fun h => h.1, fun h => ⟨h, by omega, by omega⟩⟩
        · rw [o1, Int.compare_eq_gt.2 h1]
        · rw [o2, Int.compare_eq_lt.2 h2]
      · refine Or.inr (Or.inr (Or.inr ⟨hn, hf, ?_, Or.inl ?_, Or.inr ?_⟩))
        · rw [hok]; exact ⟨fun h => h.1, fun h => ⟨h, by omega, by omega⟩⟩
        · rw [o1, Int.compare_eq_gt.2 h1]
        · rw [o2, Int.compare_eq_eq.2 h2]
      · refine Or.inr (Or.inr (Or.inl ⟨hn, fun g => (hok.1 g).2.2 h2, ?_, ?_⟩))
        · rw [o1, Int.compare_eq_gt.2 h1]
        · rw [o2, Int.compare_eq_gt.2 h2]
/-- the whole number next to a number; any NaN is the one. -/
def rndF (b : Nat) : Nat := if isNaNB b then nanB else wholeB .even b
theorem inf_whole (way : Toward) {b : Nat} (h : b < 18446744073709551616) (hm : magB b = 9218868437227405312) : wholeB way b = b := by
  have hw := word_self h
  unfold wholeB
  rw [read_inf h hm]
  rw [hm] at hw
  exact hw
theorem rndF_fin {b : Nat} (h : FinB b) : rndF b = wholeB .even b := if_neg (by rw [fin_not_nan h]; decide)
theorem rndF_can {b : Nat} (h : b < 18446744073709551616) : CanB (rndF b) := by
  unfold rndF
  rcases kinds h with hn | ⟨hn, hi⟩ | ⟨hn, hf⟩
  · rw [if_pos hn]; exact ⟨by decide, fun _ => rfl⟩
  · rw [hn, if_neg (by decide), inf_whole .even h hi]; exact ⟨h, fun g => by rw [hn] at g; cases g⟩
  · rw [hn, if_neg (by decide)]
    have hw := (whole_fin .even hf).1
    exact ⟨hw.1, fun g => by rw [fin_not_nan hw] at g; cases g⟩
theorem rndF_again {b : Nat} (h : b < 18446744073709551616) : rndF (rndF b) = rndF b := by
  rcases kinds h with hn | ⟨hn, hi⟩ | ⟨hn, hf⟩
  · have : rndF b = nanB := if_pos hn
    rw [this]; exact if_pos (by decide +kernel)
  · have : rndF b = b := by unfold rndF; rw [hn, if_neg (by decide), inf_whole .even h hi]
    rw [this, this]
  · rw [rndF_fin hf, rndF_fin (whole_fin .even hf).1, whole_self .even (whole_fin .even hf).1 (whole_is .even hf)]
theorem inf_self {b : Nat} (h : b < 18446744073709551616) (hm : magB b = 9218868437227405312) : double.sub b b = none := by
  unfold Format.sub
  rw [read_inf h hm]
  cases negB b <;> rfl
end Go.Proofs.YtfdkafmomkkapaaGreatDoor
