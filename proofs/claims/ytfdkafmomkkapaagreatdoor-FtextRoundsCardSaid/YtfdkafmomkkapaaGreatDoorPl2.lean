/- The plain functions of ops: their texts, how many bytes they have. No program in this text. -/
import Derived.Test.YtfdkafmomkkapaaGreatDoorPl
namespace Go.Proofs.YtfdkafmomkkapaaGreatDoor

/-- n and one more, held at 2^40. -/
def sum1 (n x : Int) : Int := if 1099511627776 < n ∨ 1099511627776 - n < x then 1099511627776 else n + x

/-- the bytes of some puts, and how many they are. -/
def bulk (l : List (Int × List UInt8)) : Nat := l.length + (l.map fun p => p.2.length).sum
def bulkTo (l : List (Int × List UInt8)) (i : Nat) : Nat := l.length + ((l.take i).map fun p => p.2.length).sum

theorem bulkTo_all (l : List (Int × List UInt8)) : bulkTo l l.length = bulk l := by simp [bulkTo, bulk]
theorem bulkTo_succ (l : List (Int × List UInt8)) (i : Nat) (h : i < l.length) : bulkTo l (i + 1) = bulkTo l i + l[i].2.length := by
  unfold bulkTo
  rw [List.take_succ_eq_append_getElem h, List.map_append, List.sum_append, List.map_cons, List.map_nil, List.sum_cons, List.sum_nil]
  omega
theorem bulkTo_le (l : List (Int × List UInt8)) (i : Nat) : bulkTo l i ≤ bulk l := by
  unfold bulkTo bulk
  have h : (l.map fun p => p.2.length).sum = ((l.take i).map fun p => p.2.length).sum + ((l.drop i).map fun p => p.2.length).sum := by
    rw [← List.sum_append, ← List.map_append, List.take_append_drop]
  omega

/-- the text of some puts. -/
def putsT (l : List (Int × List UInt8)) : List UInt8 := l.flatMap fun p => 32 :: (Lib.itoa p.1 ++ 32 :: bytesT p.2)
theorem putsT_snoc (l : List (Int × List UInt8)) (p : Int × List UInt8) : putsT (l ++ [p]) = putsT l ++ (32 :: (Lib.itoa p.1 ++ 32 :: bytesT p.2)) := by simp [putsT]

/-- the text of an op. -/
def textT (k h a n : Int) (puts : List (Int × List UInt8)) : List UInt8 :=
  if k = 1 then [98, 101, 103, 105, 110]
  else if k = 2 then [114, 101, 97, 100, 32] ++ Lib.itoa h ++ [32] ++ Lib.itoa a ++ [32] ++ Lib.itoa n
  else if k = 3 then (if puts.all (fun p => p.2.length == 40) then [119, 114, 105, 116, 101, 32] ++ Lib.itoa h ++ putsT puts else [])
  else if k = 4 then [99, 111, 109, 109, 105, 116, 32] ++ Lib.itoa h
  else if k = 5 then [97, 98, 111, 114, 116, 32] ++ Lib.itoa h
  else []

theorem textT_bad {k h a n : Int} {puts : List (Int × List UInt8)} (hk : k = 3) {i : Nat} (hi : i < puts.length) (hb : puts[i].2.length ≠ 40) : textT k h a n puts = [] := by
  unfold textT
  rw [if_neg (by omega), if_neg (by omega), if_pos hk, if_neg]
  intro hall
  rw [List.all_eq_true] at hall
  have := hall _ (List.getElem_mem hi)
  simp only [beq_iff_eq] at this
  exact hb this

theorem textT_write {k h a n : Int} {puts : List (Int × List UInt8)} (hk : k = 3) (hall : ∀ i (hi : i < puts.length), puts[i].2.length = 40) : textT k h a n puts = [119, 114, 105, 116, 101, 32] ++ Lib.itoa h ++ putsT puts := by
  unfold textT
  rw [if_neg (by omega), if_neg (by omega), if_pos hk, if_pos]
  rw [List.all_eq_true]
  intro x hx
  obtain ⟨i, hi, rfl⟩ := List.getElem_of_mem hx
  simpa using hall i hi

theorem decDigits_length {u : Nat} (h : u < 10 ^ 19) : (Lib.decDigits u).length ≤ 19 := by
  by_cases h0 : u = 0
  · subst h0; rw [Lib.decDigits]; simp
  · rw [← decD_eq u (by omega)]; exact decD_length u 19 h
theorem itoa_length {n : Int} (h0 : -9223372036854775808 ≤ n) (h1 : n ≤ 9223372036854775807) : (Lib.itoa n).length ≤ 20 := by
  unfold Lib.itoa
  split
  · have := decDigits_length (u := n.natAbs) (by omega)
    simp; omega
  · have := decDigits_length (u := n.toNat) (by omega)
    omega

theorem trim0_length (l : List UInt8) : (trim0 l).length ≤ l.length := by unfold trim0; rw [List.length_take]; omega
theorem bytesT_length (l : List UInt8) : (bytesT l).length ≤ 2 * l.length + 1 := by
  unfold bytesT
  split
  · simp
  · have := trim0_length l
    rw [hexs_length]; omega
theorem putsT_length (l : List (Int × List UInt8)) (h : ∀ j (hj : j < l.length), l[j].2.length = 40 ∧ -9223372036854775808 ≤ l[j].1 ∧ l[j].1 ≤ 9223372036854775807) : (putsT l).length ≤ 104 * l.length := by
  induction l with
  | nil => simp [putsT]
  | cons p l ih =>
    have e : putsT (p :: l) = (32 :: (Lib.itoa p.1 ++ 32 :: bytesT p.2)) ++ putsT l := by simp [putsT]
    have h0 := h 0 (by simp)
    simp only [List.getElem_cons_zero] at h0
    have h1 := itoa_length h0.2.1 h0.2.2
    have h2 := bytesT_length p.2
    have h3 := ih fun j hj => by have := h (j + 1) (by simp; omega); simpa using this
    rw [e, List.length_append]
    simp
    omega

/-- the words of some puts. -/
def putW (l : List (Int × List UInt8)) : List (List UInt8) := l.flatMap fun p => [Lib.itoa p.1, bytesT p.2]
theorem putW_snoc (l : List (Int × List UInt8)) (p : Int × List UInt8) : putW (l ++ [p]) = putW l ++ [Lib.itoa p.1, bytesT p.2] := by simp [putW]
theorem putW_length (l : List (Int × List UInt8)) : (putW l).length = 2 * l.length := by
  induction l with
  | nil => rfl
  | cons p l ih =>
    have e : putW (p :: l) = [Lib.itoa p.1, bytesT p.2] ++ putW l := by simp [putW]
    rw [e, List.length_append, ih]; simp; omega
theorem putW_tail (l : List (Int × List UInt8)) : Lib.joinTail [32] (putW l) = putsT l := by
  induction l with
  | nil => rfl
  | cons p l ih =>
    have e : putW (p :: l) = [Lib.itoa p.1, bytesT p.2] ++ putW l := by simp [putW]
    have e2 : putsT (p :: l) = (32 :: (Lib.itoa p.1 ++ 32 :: bytesT p.2)) ++ putsT l := by simp [putsT]
    rw [e, e2, ← ih]
    simp [Lib.joinTail]

/-- the words of an op. -/
def opW (k h a n : Int) (l : List (Int × List UInt8)) : List (List UInt8) :=
  if k = 2 then [wordL k, Lib.itoa h, Lib.itoa a, Lib.itoa n]
  else if k = 3 then [wordL k, Lib.itoa h] ++ putW l
  else if k = 4 ∨ k = 5 then [wordL k, Lib.itoa h]
  else [wordL k]

theorem opW_text {k h a n : Int} {l : List (Int × List UInt8)} (hall : k = 3 → ∀ i (hi : i < l.length), l[i].2.length = 40) : Lib.join (opW k h a n l) [32] = textT k h a n l := by
  by_cases h3 : k = 3
  · subst h3
    rw [textT_write rfl (hall rfl)]
    unfold opW
    rw [if_neg (by omega), if_pos rfl]
    show Lib.join (wordL 3 :: (Lib.itoa h :: putW l)) [32] = _
    rw [Lib.join_cons]
    have : Lib.joinTail [32] (Lib.itoa h :: putW l) = 32 :: Lib.itoa h ++ Lib.joinTail [32] (putW l) := by simp [Lib.joinTail]
    rw [this, putW_tail]
    simp [wordL]
  · unfold opW textT
    by_cases h1 : k = 1
    · subst h1; simp [wordL, Lib.join_one]
    by_cases h2 : k = 2
    · subst h2; simp [wordL, Lib.join_cons, Lib.joinTail]
    by_cases h4 : k = 4
    · subst h4; simp [wordL, Lib.join_cons, Lib.joinTail]
    by_cases h5 : k = 5
    · subst h5; simp [wordL, Lib.join_cons, Lib.joinTail]
    simp [h1, h2, h3, h4, h5, wordL, Lib.join_one]

end Go.Proofs.YtfdkafmomkkapaaGreatDoor
