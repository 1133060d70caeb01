/- Plain: numerals. No program in this text. -/
import Derived.Test.YtfdkafmomkkapaaGreatDoorPl3
import Derived.Lib.AtoiAll
namespace Go.Proofs.YtfdkafmomkkapaaGreatDoor
open Go.Lib

theorem atoiAll_bd {l : List UInt8} {v : Int} (h : Lib.atoiAll l = .ok v) : -9223372036854775808 ≤ v ∧ v ≤ 9223372036854775807 := by
  unfold Lib.atoiAll at h
  split at h
  · cases h
  · simp only at h
    split at h
    · cases h
    · cases h
    · split at h
      · cases h
      · split at h
        · cases h
        · injection h with h
          split at h <;> omega
theorem atoiIn_bad {l : List UInt8} (h : ∀ v, Lib.atoiAll l ≠ .ok v) : atoiIn l = none := by
  unfold atoiIn
  split
  · rename_i v hv; exact absurd hv (h v)
  · rfl
theorem atoiIn_far {l : List UInt8} {v : Int} (h : Lib.atoiAll l = .ok v) (hr : ¬ (-1099511627776 ≤ v ∧ v ≤ 1099511627776)) : atoiIn l = none := by
  unfold atoiIn; rw [h]; simp only; rw [if_neg hr]
theorem atoiIn_ok {l : List UInt8} {v : Int} (h : Lib.atoiAll l = .ok v) (hr : -1099511627776 ≤ v ∧ v ≤ 1099511627776) : atoiIn l = some v := by
  unfold atoiIn; rw [h]; simp only; rw [if_pos hr]
theorem decDigits_cut {u : Nat} (h : ¬ u < 10) : decDigits u = decDigits (u / 10) ++ [UInt8.ofNat (48 + u % 10)] := by
  rw [decDigits, dif_neg h]
theorem ofNat_dig {n : Nat} (h : n < 10) : (UInt8.ofNat (48 + n)).toNat = 48 + n := by
  rw [UInt8.toNat_ofNat']; omega
theorem decDigits_dig (u : Nat) : ∀ c ∈ decDigits u, 48 ≤ c.toNat ∧ c.toNat ≤ 57 := by
  induction u using Nat.strongRecOn with
  | ind u ih =>
    intro c hc
    by_cases h : u < 10
    · rw [decDigits_one h] at hc
      rw [List.mem_singleton.1 hc, ofNat_dig h]; omega
    · rw [decDigits_cut h] at hc
      rcases List.mem_append.1 hc with hc | hc
      · exact ih _ (by omega) c hc
      · rw [List.mem_singleton.1 hc, ofNat_dig (by omega)]; omega
theorem decDigits_ne (u : Nat) : decDigits u ≠ [] := by
  by_cases h : u < 10
  · rw [decDigits_one h]; simp
  · rw [decDigits_cut h]; simp

theorem parseUint10_app (acc : Nat) (l r : List UInt8) (v : Nat) (h : parseUint10 acc l = .ok v) : parseUint10 acc (l ++ r) = parseUint10 v r := by
  induction l generalizing acc with
  | nil => simp only [parseUint10] at h; injection h with h; subst h; rfl
  | cons c l ih =>
    simp only [parseUint10, List.cons_append] at h ⊢
    split at h
    · rename_i h1
      rw [if_pos h1]
      split at h
      · cases h
      · rename_i h2
        rw [if_neg h2]
        split at h
        · cases h
        · rename_i h3
          rw [if_neg h3]
          exact ih _ h
    · cases h
theorem parseUint10_dec (u : Nat) (h : u < 1844674407370955162) : parseUint10 0 (decDigits u) = .ok u := by
  induction u using Nat.strongRecOn with
  | ind u ih =>
    by_cases h1 : u < 10
    · rw [decDigits_one h1]
      have e := ofNat_dig h1
      simp only [parseUint10, e]
      rw [if_pos (by omega), if_neg (by omega), if_neg (by omega)]
      congr 1; omega
    · rw [decDigits_cut h1, parseUint10_app 0 _ _ (u / 10) (ih _ (by omega) (by omega))]
      have e := ofNat_dig (n := u % 10) (by omega)
      simp only [parseUint10, e]
      rw [if_pos (by omega), if_neg (by omega), if_neg (by omega)]
      congr 1; omega

/-- from -2^40 to 2^40. -/
def RR (v : Int) : Prop := -1099511627776 ≤ v ∧ v ≤ 1099511627776

theorem atoiIn_itoa {v : Int} (h : RR v) : atoiIn (itoa v) = some v := by
  obtain ⟨h0, h1⟩ := h
  have key : atoiAll (itoa v) = .ok v := by
    unfold itoa
    split
    · rename_i hn
      have hp := parseUint10_dec v.natAbs (by omega)
      unfold atoiAll
      simp only [show (45 : UInt8).toNat = 45 from rfl, or_true, if_true]
      unfold parseMag
      rw [if_neg (decDigits_ne _), hp]
      simp only
      rw [if_neg (by omega), if_neg (by omega)]
      congr 1; omega
    · rename_i hn
      have hp := parseUint10_dec v.toNat (by omega)
      cases hd : decDigits v.toNat with
      | nil => exact absurd hd (decDigits_ne _)
      | cons c r =>
        have hc := decDigits_dig v.toNat c (by rw [hd]; simp)
        unfold atoiAll
        simp only
        rw [if_neg (by omega)]
        unfold parseMag
        rw [if_neg (by simp), ← hd, hp]
        simp only
        rw [if_neg (by omega), if_neg (by omega), if_neg (by omega)]
        congr 1; omega
  unfold atoiIn
  rw [key]
  simp only
  rw [if_pos ⟨h0, h1⟩]
theorem atoiIn_RR {l : List UInt8} {v : Int} (h : atoiIn l = some v) : RR v := by
  unfold atoiIn at h
  split at h
  · split at h
    · rename_i hc; injection h with h; subst h; exact hc
    · cases h
  · cases h

theorem itoa_chars (v : Int) : ∀ c ∈ itoa v, c.toNat = 45 ∨ 48 ≤ c.toNat ∧ c.toNat ≤ 57 := by
  intro c hc
  unfold itoa at hc
  split at hc
  · rcases List.mem_cons.1 hc with rfl | hc
    · exact Or.inl rfl
    · exact Or.inr (decDigits_dig _ c hc)
  · exact Or.inr (decDigits_dig _ c hc)
theorem itoa_ne (v : Int) : itoa v ≠ [] := by
  unfold itoa
  split
  · simp
  · exact decDigits_ne _
end Go.Proofs.YtfdkafmomkkapaaGreatDoor
