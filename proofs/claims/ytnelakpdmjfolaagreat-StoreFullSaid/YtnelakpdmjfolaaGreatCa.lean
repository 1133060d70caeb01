/- Lemmas and walks: The plain functions: a block's bytes as hex digits and back; words of ops. No program in this text. The plain functions of ops: their texts, how many bytes they have. No program in this text. The plain functions of numbers' texts: bits, hex digits, the text. No program in this text. Plain: numbers as bytes, five numbers as a block. No program in this text. -/
import Derived.Lib.ItoaNum
import Derived.Lib.AtoiAll
import Derived.Lib.Split
import Derived.Lib.Join
import Ieee.Arith
namespace Go.Proofs.YtnelakpdmjfolaaGreat

/-- a hex digit's value, -1 for none. -/
def dig (c : Int) : Int := if 48 ≤ c ∧ c ≤ 57 then c - 48 else if 97 ≤ c ∧ c ≤ 102 then c - 87 else -1

/-- the digit of a number from 0 to 15. -/
def hexc (n : Nat) : UInt8 := if n < 10 then UInt8.ofNat (48 + n) else UInt8.ofNat (87 + n)
def hex2 (c : UInt8) : List UInt8 := [hexc (c.toNat / 16), hexc (c.toNat % 16)]
def hexs (l : List UInt8) : List UInt8 := l.flatMap hex2

/-- how many bytes are left without the noughts at the end. -/
def keep : List UInt8 → Nat
  | [] => 0
  | c :: l => if keep l = 0 then (if c = 0 then 0 else 1) else keep l + 1

def trim0 (l : List UInt8) : List UInt8 := l.take (keep l)
def bytesT (l : List UInt8) : List UInt8 := if keep l = 0 then [45] else hexs (trim0 l)

/-- an op's word. -/
def wordL (k : Int) : List UInt8 :=
  if k = 1 then [98, 101, 103, 105, 110] else if k = 2 then [114, 101, 97, 100] else if k = 3 then [119, 114, 105, 116, 101]
  else if k = 4 then [99, 111, 109, 109, 105, 116] else if k = 5 then [97, 98, 111, 114, 116] else []

theorem hexs_snoc (l : List UInt8) (c : UInt8) : hexs (l ++ [c]) = hexs l ++ hex2 c := by simp [hexs]
theorem hexs_length (l : List UInt8) : (hexs l).length = 2 * l.length := by
  induction l with
  | nil => rfl
  | cons c l ih =>
    have e : hexs (c :: l) = hex2 c ++ hexs l := by simp [hexs]
    rw [e, List.length_append, ih]
    simp [hex2]; omega

theorem keep_le (l : List UInt8) : keep l ≤ l.length := by
  induction l with
  | nil => simp [keep]
  | cons c l ih =>
    simp only [keep, List.length_cons]
    split
    · split <;> omega
    · omega

theorem keep_snoc_zero (l : List UInt8) : keep (l ++ [0]) = keep l := by
  induction l with
  | nil => simp [keep]
  | cons c l ih => simp [keep, ih]

theorem keep_snoc (l : List UInt8) (c : UInt8) (h : c ≠ 0) : keep (l ++ [c]) = l.length + 1 := by
  induction l with
  | nil => simp [keep, h]
  | cons d l ih => simp [keep, ih]

/-- the two digits at place i of a text, and the byte that they are. -/
def hiD (s : List UInt8) (i : Nat) : Int := dig (s.getD (2 * i) 0).toNat
def loD (s : List UInt8) (i : Nat) : Int := dig (s.getD (2 * i + 1) 0).toNat
def okD (s : List UInt8) (i : Nat) : Bool := decide (0 ≤ hiD s i) && decide (0 ≤ loD s i)
def byteD (s : List UInt8) (i : Nat) : UInt8 := UInt8.ofNat (hiD s i * 16 + loD s i).toNat
/-- forty bytes, of which the first i are read. -/
def fortyD (s : List UInt8) (i : Nat) : List UInt8 := (List.range i).map (byteD s) ++ List.replicate (40 - i) 0
/-- the bytes of a text of 2n digits, if it is one's. -/
def unbytesN (s : List UInt8) (n : Nat) : Option (List UInt8) :=
  if (List.range n).all (okD s) then (if bytesT (fortyD s n) = s then some (fortyD s n) else none) else none
/-- the bytes of a text, if it is one's. -/
def unbytesT (s : List UInt8) : Option (List UInt8) :=
  if s = [45] then some (List.replicate 40 0)
  else if s.length % 2 ≠ 0 ∨ 80 < s.length then none
  else unbytesN s (s.length / 2)

theorem dig_le (c : Int) : -1 ≤ dig c ∧ dig c ≤ 15 := by unfold dig; split <;> (try split) <;> omega
theorem fortyD_length (s : List UInt8) (i : Nat) (h : i ≤ 40) : (fortyD s i).length = 40 := by simp [fortyD]; omega
theorem fortyD_zero (s : List UInt8) : fortyD s 0 = List.replicate 40 0 := by simp [fortyD]
theorem fortyD_succ (s : List UInt8) (i : Nat) (h : i < 40) : (fortyD s i).set i (byteD s i) = fortyD s (i + 1) := by
  unfold fortyD
  rw [List.set_append_right _ _ (by simp), List.range_succ, show 40 - i = (40 - (i + 1)) + 1 by omega, List.replicate_succ]
  simp

theorem unbytesN_bad {s : List UInt8} {n i : Nat} (h : i < n) (hb : okD s i = false) : unbytesN s n = none := by
  unfold unbytesN
  rw [if_neg]
  intro hall
  rw [List.all_eq_true] at hall
  have := hall i (List.mem_range.2 h)
  rw [hb] at this
  cases this
theorem okD_succ {s : List UInt8} {i : Nat} (h : (List.range i).all (okD s) = true) (hg : okD s i = true) : (List.range (i + 1)).all (okD s) = true := by
  rw [List.range_succ, List.all_append, h]
  simp [hg]

theorem okD_bad {s : List UInt8} {i : Nat} (h : ¬ (0 ≤ hiD s i ∧ 0 ≤ loD s i)) : okD s i = false := by
  unfold okD
  rw [Bool.and_eq_false_iff, decide_eq_false_iff_not, decide_eq_false_iff_not]
  omega
theorem okD_good {s : List UInt8} {i : Nat} (h : 0 ≤ hiD s i ∧ 0 ≤ loD s i) : okD s i = true := by
  unfold okD; simp [h.1, h.2]
theorem byteD_toNat {s : List UInt8} {i : Nat} (h : 0 ≤ hiD s i ∧ 0 ≤ loD s i) : ((byteD s i).toNat : Int) = hiD s i * 16 + loD s i := by
  have h1 := (dig_le (s.getD (2 * i) 0).toNat).2
  have h2 := (dig_le (s.getD (2 * i + 1) 0).toNat).2
  have h3 : hiD s i ≤ 15 := h1
  have h4 : loD s i ≤ 15 := h2
  unfold byteD
  rw [UInt8.toNat_ofNat']
  omega

/-- decimal digits, none for 0. -/
def decD (u : Nat) : List UInt8 := if _h : u = 0 then [] else decD (u / 10) ++ [UInt8.ofNat (48 + u % 10)]
termination_by u
decreasing_by omega
theorem decD_zero : decD 0 = [] := by unfold decD; rfl
theorem decD_pos {u : Nat} (h : 0 < u) : decD u = decD (u / 10) ++ [UInt8.ofNat (48 + u % 10)] := by rw [decD, dif_neg (by omega)]
theorem decD_eq (u : Nat) (h : 0 < u) : decD u = Lib.decDigits u := by
  induction u using Nat.strongRecOn with
  | ind u ih =>
    rw [decD_pos h, Lib.decDigits]
    by_cases h10 : u < 10
    · rw [dif_pos h10, show u / 10 = 0 by omega, decD_zero, show u % 10 = u by omega]; rfl
    · rw [dif_neg h10, ih (u / 10) (by omega) (by omega)]
theorem decD_step {u U : Nat} {l : List UInt8} (h : 0 < u) (hU : decD U = decD u ++ l) : decD U = decD (u / 10) ++ (UInt8.ofNat (48 + u % 10) :: l) := by
  rw [hU, decD_pos h]; simp
theorem decD_length (u : Nat) : ∀ k, u < 10 ^ k → (decD u).length ≤ k := by
  induction u using Nat.strongRecOn with
  | ind u ih =>
    intro k hk
    by_cases h0 : u = 0
    · subst h0; rw [decD_zero]; simp
    · cases k with
      | zero => simp at hk; omega
      | succ k =>
        rw [decD_pos (by omega), List.length_append]
        have := ih (u / 10) (by omega) k (by rw [Nat.pow_succ] at hk; omega)
        simp; omega

/-- the words of a text: cut at each blank. -/
def words : List UInt8 → List (List UInt8)
  | [] => [[]]
  | c :: r => if c = 32 then [] :: words r else match words r with
    | w :: ws => (c :: w) :: ws
    | [] => [[c]]

theorem words_ne (l : List UInt8) : words l ≠ [] := by
  cases l with
  | nil => simp [words]
  | cons c r =>
    unfold words
    split
    · simp
    · split <;> simp

theorem words_none : ∀ (l : List UInt8), (∀ c ∈ l, c ≠ 32) → words l = [l]
  | [], _ => rfl
  | c :: r, h => by
    unfold words
    rw [if_neg (h c (by simp)), words_none r fun x hx => h x (by simp [hx])]

theorem words_cut : ∀ (a b : List UInt8), (∀ c ∈ a, c ≠ 32) → words (a ++ 32 :: b) = a :: words b
  | [], b, _ => by simp [words]
  | c :: r, b, h => by
    rw [List.cons_append, words, if_neg (h c (by simp)), words_cut r b fun x hx => h x (by simp [hx])]

theorem words_length (l : List UInt8) : (words l).length ≤ l.length + 1 := by
  induction l with
  | nil => simp [words]
  | cons c r ih =>
    unfold words
    split
    · simp; omega
    · split
      · rename_i h; rw [h] at ih; simp at ih ⊢; omega
      · simp

/-- where a cut from place f on stands at place i: W is cut already. -/
def CutAt (s : List UInt8) (i f : Nat) (W : List (List UInt8)) : Prop :=
  (i ≤ s.length ∧ f ≤ i ∧ words s = W ++ words (s.drop f) ∧ ∀ j, f ≤ j → j < i → s.getD j 0 ≠ 32) ∨ (i = s.length + 1 ∧ words s = W)

theorem cutAt_zero (s : List UInt8) : CutAt s 0 0 [] := Or.inl ⟨Nat.zero_le _, Nat.le_refl _, by simp, fun j _ h => by omega⟩

theorem piece_free {s : List UInt8} {i f : Nat} (hi : i ≤ s.length) (h : ∀ j, f ≤ j → j < i → s.getD j 0 ≠ 32) : ∀ c ∈ (s.drop f).take (i - f), c ≠ 32 := by
  intro c hc
  obtain ⟨k, hk, he⟩ := List.getElem_of_mem hc
  have hk' : k < i - f := by simp at hk; omega
  have hk2 : f + k < s.length := by omega
  have := h (f + k) (by omega) (by omega)
  rw [List.getD_eq_getElem?_getD, List.getElem?_eq_getElem hk2] at this
  rw [← he, List.getElem_take, List.getElem_drop]
  simpa using this

theorem cutAt_blank {s : List UInt8} {i f : Nat} {W : List (List UInt8)} (hi : i < s.length) (h : CutAt s i f W) (hb : s.getD i 0 = 32) : CutAt s (i + 1) (i + 1) (W ++ [(s.drop f).take (i - f)]) := by
  rcases h with ⟨_, hf, hw, hn⟩ | ⟨h, _⟩
  · left
    refine ⟨by omega, Nat.le_refl _, ?_, fun j h1 h2 => by omega⟩
    have hp := piece_free (by omega) hn
    have hs : s.drop f = (s.drop f).take (i - f) ++ 32 :: s.drop (i + 1) := by
      have h1 : s.drop i = 32 :: s.drop (i + 1) := by
        rw [List.drop_eq_getElem_cons hi]
        rw [List.getD_eq_getElem?_getD, List.getElem?_eq_getElem hi] at hb
        simp only [Option.getD_some] at hb
        rw [hb]
      have h2 : s.drop i = (s.drop f).drop (i - f) := by rw [List.drop_drop]; congr 1; omega
      rw [← h1, h2, List.take_append_drop]
    rw [hw]
    rw [hs, words_cut _ _ hp, ← hs]
    simp
  · omega

theorem cutAt_end {s : List UInt8} {f : Nat} {W : List (List UInt8)} (h : CutAt s s.length f W) : CutAt s (s.length + 1) (s.length + 1) (W ++ [(s.drop f).take (s.length - f)]) := by
  rcases h with ⟨_, hf, hw, hn⟩ | ⟨h, _⟩
  · right
    refine ⟨rfl, ?_⟩
    have hp := piece_free (Nat.le_refl _) hn
    have hs : (s.drop f).take (s.length - f) = s.drop f := List.take_of_length_le (by simp)
    rw [hs] at hp ⊢
    rw [hw, words_none _ hp]
  · omega

theorem cutAt_other {s : List UInt8} {i f : Nat} {W : List (List UInt8)} (hi : i < s.length) (h : CutAt s i f W) (hb : s.getD i 0 ≠ 32) : CutAt s (i + 1) f W := by
  rcases h with ⟨_, hf, hw, hn⟩ | ⟨h, _⟩
  · left
    refine ⟨by omega, by omega, hw, fun j h1 h2 => ?_⟩
    rcases Nat.lt_or_ge j i with h3 | h3
    · exact hn j h1 h3
    · obtain rfl : j = i := by omega
      exact hb
  · omega

theorem cutAt_length {s : List UInt8} {i f : Nat} {W : List (List UInt8)} (h : CutAt s i f W) : W.length ≤ s.length + 1 := by
  have := words_length s
  rcases h with ⟨_, _, hw, _⟩ | ⟨_, hw⟩
  · rw [hw, List.length_append] at this; omega
  · rw [hw] at this; exact this

/-- what the first k bytes of a numeral come to, read one by one; a sign ahead is passed by. -/
def preN (s : List UInt8) (neg : Bool) : Nat → Option Nat
  | 0 => some 0
  | k + 1 => match preN s neg k with
    | none => none
    | some n => if neg = true ∧ k = 0 then some n
      else if 48 ≤ (s.getD k 0).toNat ∧ (s.getD k 0).toNat ≤ 57 ∧ n ≤ 1099511627776 then some (10 * n + ((s.getD k 0).toNat - 48)) else none

def negN (s : List UInt8) : Bool := decide (s.head? = some 45)
def signN (b : Bool) (n : Nat) : Int := if b then -(n : Int) else n
/-- the number that a text is, in its one form, from -2^40 to 2^40. -/
def numT (s : List UInt8) : Option Int :=
  match preN s (negN s) s.length with
  | none => none
  | some n => if signN (negN s) n ≤ 1099511627776 ∧ -1099511627776 ≤ signN (negN s) n ∧ Lib.itoa (signN (negN s) n) = s then some (signN (negN s) n) else none

theorem preN_succ (s : List UInt8) (neg : Bool) (k n : Nat) (h : preN s neg k = some n) : preN s neg (k + 1) = if neg = true ∧ k = 0 then some n
      else if 48 ≤ (s.getD k 0).toNat ∧ (s.getD k 0).toNat ≤ 57 ∧ n ≤ 1099511627776 then some (10 * n + ((s.getD k 0).toNat - 48)) else none := by
  rw [preN, h]

theorem preN_none (s : List UInt8) (neg : Bool) {k : Nat} (h : preN s neg k = none) : ∀ j, k ≤ j → preN s neg j = none := by
  intro j hj
  induction hj with
  | refl => exact h
  | step _ ih => rw [preN, ih]

theorem preN_le (s : List UInt8) (neg : Bool) {k n : Nat} (h : preN s neg k = some n) : n ≤ 10995116277769 := by
  cases k with
  | zero => simp only [preN, Option.some.injEq] at h; omega
  | succ k =>
    rw [preN] at h
    split at h
    · cases h
    · rename_i m hm
      split at h
      · have := preN_le s neg hm
        simp only [Option.some.injEq] at h; omega
      · split at h
        · simp only [Option.some.injEq] at h; omega
        · cases h

end Go.Proofs.YtnelakpdmjfolaaGreat
namespace Go.Proofs.YtnelakpdmjfolaaGreat

/-- n and one more, held at 2^40. -/
def sum1 (n x : Int) : Int := if 1099511627776 < n ∨ 1099511627776 - n < x then 1099511627776 else n + x

/-- the bytes of some puts, and how many they are. -/
def bulk (l : List (Int × List UInt8)) : Nat := l.length + (l.map fun p => p.2.length).sum
def bulkTo (l : List (Int × List UInt8)) (i : Nat) : Nat := l.length + ((l.take i).map fun p => p.2.length).sum

theorem bulkTo_all (l : List (Int × List UInt8)) : bulkTo l l.length = bulk l := by simp [bulkTo, bulk]
theorem bulkTo_succ (l : List (Int × List UInt8)) (i : Nat) (h : i < l.length) : bulkTo l (i + 1) = bulkTo l i + l[i].2.length := by
  unfold bulkTo
  rw [List.take_succ_eq_append_getElem h, List.map_append, List.sum_append, List.map_cons, List.map_nil, List.sum_cons, List.sum_nil]
  omega
theorem bulkTo_le (l : List (Int × List UInt8)) (i : Nat) : bulkTo l i ≤ bulk l := by
  unfold bulkTo bulk
  have h : (l.map fun p => p.2.length).sum = ((l.take i).map fun p => p.2.length).sum + ((l.drop i).map fun p => p.2.length).sum := by
    rw [← List.sum_append, ← List.map_append, List.take_append_drop]
  omega

/-- the text of some puts. -/
def putsT (l : List (Int × List UInt8)) : List UInt8 := l.flatMap fun p => 32 :: (Lib.itoa p.1 ++ 32 :: bytesT p.2)
theorem putsT_snoc (l : List (Int × List UInt8)) (p : Int × List UInt8) : putsT (l ++ [p]) = putsT l ++ (32 :: (Lib.itoa p.1 ++ 32 :: bytesT p.2)) := by simp [putsT]

/-- the text of an op. -/
def textT (k h a n : Int) (puts : List (Int × List UInt8)) : List UInt8 :=
  if k = 1 then [98, 101, 103, 105, 110]
  else if k = 2 then [114, 101, 97, 100, 32] ++ Lib.itoa h ++ [32] ++ Lib.itoa a ++ [32] ++ Lib.itoa n
  else if k = 3 then (if puts.all (fun p => p.2.length == 40) then [119, 114, 105, 116, 101, 32] ++ Lib.itoa h ++ putsT puts else [])
  else if k = 4 then [99, 111, 109, 109, 105, 116, 32] ++ Lib.itoa h
  else if k = 5 then [97, 98, 111, 114, 116, 32] ++ Lib.itoa h
  else []

theorem textT_bad {k h a n : Int} {puts : List (Int × List UInt8)} (hk : k = 3) {i : Nat} (hi : i < puts.length) (hb : puts[i].2.length ≠ 40) : textT k h a n puts = [] := by
  unfold textT
  rw [if_neg (by omega), if_neg (by omega), if_pos hk, if_neg]
  intro hall
  rw [List.all_eq_true] at hall
  have := hall _ (List.getElem_mem hi)
  simp only [beq_iff_eq] at this
  exact hb this

theorem textT_write {k h a n : Int} {puts : List (Int × List UInt8)} (hk : k = 3) (hall : ∀ i (hi : i < puts.length), puts[i].2.length = 40) : textT k h a n puts = [119, 114, 105, 116, 101, 32] ++ Lib.itoa h ++ putsT puts := by
  unfold textT
  rw [if_neg (by omega), if_neg (by omega), if_pos hk, if_pos]
  rw [List.all_eq_true]
  intro x hx
  obtain ⟨i, hi, rfl⟩ := List.getElem_of_mem hx
  simpa using hall i hi

theorem decDigits_length {u : Nat} (h : u < 10 ^ 19) : (Lib.decDigits u).length ≤ 19 := by
  by_cases h0 : u = 0
  · subst h0; rw [Lib.decDigits]; simp
  · rw [← decD_eq u (by omega)]; exact decD_length u 19 h
theorem itoa_length {n : Int} (h0 : -9223372036854775808 ≤ n) (h1 : n ≤ 9223372036854775807) : (Lib.itoa n).length ≤ 20 := by
  unfold Lib.itoa
  split
  · have := decDigits_length (u := n.natAbs) (by omega)
    simp; omega
  · have := decDigits_length (u := n.toNat) (by omega)
    omega

theorem trim0_length (l : List UInt8) : (trim0 l).length ≤ l.length := by unfold trim0; rw [List.length_take]; omega
theorem bytesT_length (l : List UInt8) : (bytesT l).length ≤ 2 * l.length + 1 := by
  unfold bytesT
  split
  · simp
  · have := trim0_length l
    rw [hexs_length]; omega
theorem putsT_length (l : List (Int × List UInt8)) (h : ∀ j (hj : j < l.length), l[j].2.length = 40 ∧ -9223372036854775808 ≤ l[j].1 ∧ l[j].1 ≤ 9223372036854775807) : (putsT l).length ≤ 104 * l.length := by
  induction l with
  | nil => simp [putsT]
  | cons p l ih =>
    have e : putsT (p :: l) = (32 :: (Lib.itoa p.1 ++ 32 :: bytesT p.2)) ++ putsT l := by simp [putsT]
    have h0 := h 0 (by simp)
    simp only [List.getElem_cons_zero] at h0
    have h1 := itoa_length h0.2.1 h0.2.2
    have h2 := bytesT_length p.2
    have h3 := ih fun j hj => by have := h (j + 1) (by simp; omega); simpa using this
    rw [e, List.length_append]
    simp
    omega

/-- the words of some puts. -/
def putW (l : List (Int × List UInt8)) : List (List UInt8) := l.flatMap fun p => [Lib.itoa p.1, bytesT p.2]
theorem putW_snoc (l : List (Int × List UInt8)) (p : Int × List UInt8) : putW (l ++ [p]) = putW l ++ [Lib.itoa p.1, bytesT p.2] := by simp [putW]
theorem putW_length (l : List (Int × List UInt8)) : (putW l).length = 2 * l.length := by
  induction l with
  | nil => rfl
  | cons p l ih =>
    have e : putW (p :: l) = [Lib.itoa p.1, bytesT p.2] ++ putW l := by simp [putW]
    rw [e, List.length_append, ih]; simp; omega
theorem putW_tail (l : List (Int × List UInt8)) : Lib.joinTail [32] (putW l) = putsT l := by
  induction l with
  | nil => rfl
  | cons p l ih =>
    have e : putW (p :: l) = [Lib.itoa p.1, bytesT p.2] ++ putW l := by simp [putW]
    have e2 : putsT (p :: l) = (32 :: (Lib.itoa p.1 ++ 32 :: bytesT p.2)) ++ putsT l := by simp [putsT]
    rw [e, e2, ← ih]
    simp [Lib.joinTail]

/-- the words of an op. -/
def opW (k h a n : Int) (l : List (Int × List UInt8)) : List (List UInt8) :=
  if k = 2 then [wordL k, Lib.itoa h, Lib.itoa a, Lib.itoa n]
  else if k = 3 then [wordL k, Lib.itoa h] ++ putW l
  else if k = 4 ∨ k = 5 then [wordL k, Lib.itoa h]
  else [wordL k]

theorem opW_text {k h a n : Int} {l : List (Int × List UInt8)} (hall : k = 3 → ∀ i (hi : i < l.length), l[i].2.length = 40) : Lib.join (opW k h a n l) [32] = textT k h a n l := by
  by_cases h3 : k = 3
  · subst h3
    rw [textT_write rfl (hall rfl)]
    unfold opW
    rw [if_neg (by omega), if_pos rfl]
    show Lib.join (wordL 3 :: (Lib.itoa h :: putW l)) [32] = _
    rw [Lib.join_cons]
    have : Lib.joinTail [32] (Lib.itoa h :: putW l) = 32 :: Lib.itoa h ++ Lib.joinTail [32] (putW l) := by simp [Lib.joinTail]
    rw [this, putW_tail]
    simp [wordL]
  · unfold opW textT
    by_cases h1 : k = 1
    · subst h1; simp [wordL, Lib.join_one]
    by_cases h2 : k = 2
    · subst h2; simp [wordL, Lib.join_cons, Lib.joinTail]
    by_cases h4 : k = 4
    · subst h4; simp [wordL, Lib.join_cons, Lib.joinTail]
    by_cases h5 : k = 5
    · subst h5; simp [wordL, Lib.join_cons, Lib.joinTail]
    simp [h1, h2, h3, h4, h5, wordL, Lib.join_one]

end Go.Proofs.YtnelakpdmjfolaaGreat
namespace Go.Proofs.YtnelakpdmjfolaaGreat
open Go.Lib

def nanB : Nat := 9221120237041090560
def infB : Nat := 9218868437227405312
def signB : Nat := 9223372036854775808
/-- the bits without the sign. -/
def magB (b : Nat) : Nat := b % 9223372036854775808
def isNaNB (b : Nat) : Bool := decide (9218868437227405312 < magB b)
/-- any NaN as the one. -/
def canB (b : Nat) : Nat := if isNaNB b then nanB else b
/-- bits of a number as the functions hand it out: any NaN is the one. -/
def CanB (b : Nat) : Prop := b < 18446744073709551616 ∧ (isNaNB b = true → b = nanB)

theorem canB_can {b : Nat} (h : b < 18446744073709551616) : CanB (canB b) := by
  unfold canB
  split
  · exact ⟨by decide, fun _ => rfl⟩
  · rename_i hn; exact ⟨h, fun e => absurd e hn⟩
theorem canB_self {b : Nat} (h : CanB b) : canB b = b := by
  unfold canB; split
  · rename_i hn; exact (h.2 hn).symm
  · rfl

/-! reading a word -/
theorem read_nan {b : Nat} : (Ieee.double.read b).isNaN = isNaNB b := by
  unfold Ieee.Format.read
  have e1 : Ieee.double.signWeight = 9223372036854775808 := by decide
  have e2 : Ieee.double.binade = 4503599627370496 := by decide
  have e3 : Ieee.double.infRung = 9218868437227405312 := by decide
  simp only [e1, e2, e3]
  unfold isNaNB magB
  split
  · rename_i h; simp [Ieee.Datum.isNaN]; omega
  · split
    · rename_i h; simp [Ieee.Datum.isNaN]; omega
    · split
      · rename_i h; simp [Ieee.Datum.isNaN]; omega
      · rename_i h1 h2 h3; simp [Ieee.Datum.isNaN]; omega
theorem order_self (d : Ieee.Datum) : d.order d = if d.isNaN then none else some .eq := by
  cases d with
  | number s m e => simp [Ieee.Datum.order, Ieee.Datum.isNaN]
  | infinity s => simp [Ieee.Datum.order, Ieee.Datum.isNaN]
  | nan s t => simp [Ieee.Datum.order, Ieee.Datum.isNaN]
/-- x != x. -/
theorem neq_self (b : Nat) : (Ieee.double.order b b != some .eq) = isNaNB b := by
  unfold Ieee.Format.order
  rw [order_self, read_nan]
  cases isNaNB b <;> rfl

/-! hex digits of a fraction, without noughts at the end -/
def hexN : Nat → Nat → List UInt8
  | 0, _ => []
  | n + 1, f => hexc (f / 281474976710656) :: hexN n (f % 281474976710656 * 16)
/-- the digits as the reference writes them: till nothing is left. -/
def hexR : Nat → Nat → List UInt8
  | 0, _ => []
  | n + 1, f => if f = 0 then [] else hexc (f / 281474976710656) :: hexR n (f % 281474976710656 * 16)
def hexF (f : Nat) : List UInt8 := hexR 13 f

def expT (e : Nat) : Int := if e = 0 then -1022 else (e : Int) - 1023
/-- the text of a number without its sign, by its exponent field and its fraction. -/
def absT (e f : Nat) : List UInt8 :=
  if e = 2047 then [105, 110, 102]
  else if e = 0 ∧ f = 0 then [48]
  else (if e = 0 then 48 else 49) :: ((if f = 0 then [] else 46 :: hexF f) ++ 112 :: itoa (expT e))
def expB (b : Nat) : Nat := magB b / 4503599627370496
def fracB (b : Nat) : Nat := b % 4503599627370496
/-- the text of a number. -/
def textF (b : Nat) : List UInt8 :=
  if isNaNB b then [110, 97, 110]
  else (if 9223372036854775808 ≤ b then [45] else []) ++ absT (expB b) (fracB b)
end Go.Proofs.YtnelakpdmjfolaaGreat
namespace Go.Proofs.YtnelakpdmjfolaaGreat
open Go.Lib

/-- eight bytes of a number, the greatest first. -/
def be8 (v : Nat) : List UInt8 :=
  [UInt8.ofNat (v / 72057594037927936), UInt8.ofNat (v / 281474976710656), UInt8.ofNat (v / 1099511627776), UInt8.ofNat (v / 4294967296), UInt8.ofNat (v / 16777216), UInt8.ofNat (v / 65536), UInt8.ofNat (v / 256), UInt8.ofNat v]
/-- bytes read as a number. -/
def de (v : Nat) : List UInt8 → Nat
  | [] => v
  | c :: l => de (v * 256 + c.toNat) l
theorem be8_len (v : Nat) : (be8 v).length = 8 := rfl
theorem de_be8 {v : Nat} (h : v < 18446744073709551616) : de 0 (be8 v) = v := by
  simp only [be8, de, UInt8.toNat_ofNat']
  omega
theorem de_lt (l : List UInt8) (v : Nat) : de v l < (v + 1) * 256 ^ l.length := by
  induction l generalizing v with
  | nil => simp [de]
  | cons c l ih =>
    have := ih (v * 256 + c.toNat)
    have hc : c.toNat < 256 := c.toNat_lt
    have h2 : (v * 256 + c.toNat + 1) * 256 ^ l.length ≤ ((v + 1) * 256) * 256 ^ l.length := Nat.mul_le_mul_right _ (by omega)
    rw [List.length_cons, Nat.pow_succ, Nat.mul_comm (256 ^ l.length) 256, ← Nat.mul_assoc]
    exact Nat.lt_of_lt_of_le this h2
theorem de8_lt {l : List UInt8} (h : l.length = 8) : de 0 l < 18446744073709551616 := by
  have := de_lt l 0
  rw [h] at this
  simpa using this
/-- a number's eight bytes. -/
def encB (x : Nat) : List UInt8 := be8 (canB x)
/-- eight bytes as a number. -/
def decB (l : List UInt8) : Option Nat := if l.length = 8 ∧ canB (de 0 l) = de 0 l then some (de 0 l) else none
theorem encB_len (x : Nat) : (encB x).length = 8 := rfl
theorem decB_encB {x : Nat} (h : x < 18446744073709551616) : decB (encB x) = some (canB x) := by
  have hc := canB_can h
  have he : de 0 (encB x) = canB x := de_be8 hc.1
  unfold decB
  rw [he, if_pos ⟨rfl, canB_self hc⟩]
/-- numbers as bytes. -/
def packB (l : List Nat) : List UInt8 := l.flatMap encB
theorem packB_len (l : List Nat) : (packB l).length = 8 * l.length := by
  induction l with
  | nil => rfl
  | cons x l ih => unfold packB at *; rw [List.flatMap_cons, List.length_append, ih, encB_len, List.length_cons]; omega
theorem packB_cons (x : Nat) (l : List Nat) : packB (x :: l) = encB x ++ packB l := rfl
theorem packB_snoc (l : List Nat) (x : Nat) : packB (l ++ [x]) = packB l ++ encB x := by unfold packB; rw [List.flatMap_append]; simp
/-- n times eight bytes as numbers. -/
def unpackN : Nat → List UInt8 → Option (List Nat)
  | 0, _ => some []
  | n + 1, b => match decB (b.take 8) with
    | some x => (unpackN n (b.drop 8)).map (x :: ·)
    | none => none
theorem unpackN_pack (l : List Nat) (h : ∀ x ∈ l, x < 18446744073709551616) : unpackN l.length (packB l) = some (l.map canB) := by
  induction l with
  | nil => rfl
  | cons x l ih =>
    show (match decB ((packB (x :: l)).take 8) with
      | some y => (unpackN l.length ((packB (x :: l)).drop 8)).map (y :: ·)
      | none => none) = _
    have e1 : (packB (x :: l)).take 8 = encB x := by rw [packB_cons, ← encB_len x]; exact List.take_left
    have e2 : (packB (x :: l)).drop 8 = packB l := by rw [packB_cons, ← encB_len x]; exact List.drop_left
    rw [e1, e2, decB_encB (h x (by simp)), ih (fun y hy => h y (List.mem_cons_of_mem _ hy))]
    rfl
/-- one more number of what was read. -/
theorem unpackN_snoc (n : Nat) (b : List UInt8) (l : List Nat) (h : unpackN n b = some l) : unpackN (n + 1) b = match decB ((b.drop (8 * n)).take 8) with | some x => some (l ++ [x]) | none => none := by
  induction n generalizing b l with
  | zero =>
    simp only [unpackN] at h ⊢
    injection h with h; subst h
    rw [Nat.mul_zero, List.drop_zero]
    cases decB (b.take 8) <;> rfl
  | succ n ih =>
    rw [unpackN] at h
    rw [unpackN]
    cases hd : decB (b.take 8) with
    | none => rw [hd] at h; cases h
    | some x =>
      rw [hd] at h
      simp only at h ⊢
      cases hu : unpackN n (b.drop 8) with
      | none => rw [hu] at h; cases h
      | some k =>
        rw [hu] at h
        simp only [Option.map_some, Option.some.injEq] at h
        subst h
        rw [ih _ _ hu, List.drop_drop, show 8 + 8 * n = 8 * (n + 1) by omega]
        cases decB ((b.drop (8 * (n + 1))).take 8) <;> simp
theorem unpackN_no (n m : Nat) (b : List UInt8) (h : unpackN n b = none) : unpackN (n + m) b = none := by
  induction n generalizing b with
  | zero => cases h
  | succ n ih =>
    rw [unpackN] at h
    rw [show n + 1 + m = (n + m) + 1 by omega, unpackN]
    cases hd : decB (b.take 8) with
    | none => rfl
    | some x =>
      rw [hd] at h
      simp only at h ⊢
      cases hu : unpackN n (b.drop 8) with
      | none => rw [ih _ hu]; rfl
      | some k => rw [hu] at h; cases h
theorem unpackN_can (n : Nat) (b : List UInt8) (l : List Nat) (h : unpackN n b = some l) : l.length = n ∧ ∀ x ∈ l, CanB x := by
  induction n generalizing b l with
  | zero => injection h with h; subst h; exact ⟨rfl, fun x hx => by cases hx⟩
  | succ n ih =>
    rw [unpackN] at h
    cases hd : decB (b.take 8) with
    | none => rw [hd] at h; cases h
    | some x =>
      rw [hd] at h
      simp only at h
      cases hu : unpackN n (b.drop 8) with
      | none => rw [hu] at h; cases h
      | some k =>
        rw [hu] at h
        injection h with h
        subst h
        obtain ⟨h1, h2⟩ := ih _ _ hu
        refine ⟨by simp [h1], fun y hy => ?_⟩
        rcases List.mem_cons.1 hy with rfl | hy
        · unfold decB at hd
          split at hd
          · rename_i hc
            injection hd with hd
            subst hd
            rw [← hc.2]
            exact canB_can (de8_lt hc.1)
          · cases hd
        · exact h2 y hy
/-- a block as five numbers. -/
def unpackB (b : List UInt8) : Option (List Nat) := if b.length = 40 then unpackN 5 b else none
theorem unpackB_pack {l : List Nat} (hl : l.length = 5) (h : ∀ x ∈ l, x < 18446744073709551616) : unpackB (packB l) = some (l.map canB) := by
  unfold unpackB
  rw [if_pos (by rw [packB_len, hl]), ← hl, unpackN_pack l h]
/-- a block that was never written. -/
def zeroB : List UInt8 := List.replicate 40 0
theorem zero_pack : packB [0, 0, 0, 0, 0] = zeroB := by decide +kernel
end Go.Proofs.YtnelakpdmjfolaaGreat
