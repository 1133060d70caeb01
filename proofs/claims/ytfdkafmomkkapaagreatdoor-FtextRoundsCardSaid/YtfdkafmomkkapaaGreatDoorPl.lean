/- The plain functions: a block's bytes as hex digits and back; words of ops. No program in this text. -/
import Derived.Lib.ItoaNum
import Derived.Lib.AtoiAll
import Derived.Lib.Split
import Derived.Lib.Join
namespace Go.Proofs.YtfdkafmomkkapaaGreatDoor

/-- a hex digit's value, -1 for none. -/
def dig (c : Int) : Int := if 48 ≤ c ∧ c ≤ 57 then c - 48 else if 97 ≤ c ∧ c ≤ 102 then c - 87 else -1

/-- the digit of a number from 0 to 15. -/
def hexc (n : Nat) : UInt8 := if n < 10 then UInt8.ofNat (48 + n) else UInt8.ofNat (87 + n)
def hex2 (c : UInt8) : List UInt8 := [hexc (c.toNat / 16), hexc (c.toNat % 16)]
def hexs (l : List UInt8) : List UInt8 := l.flatMap hex2

/-- how many bytes are left without the noughts at the end. -/
def keep : List UInt8 → Nat
  | [] => 0
  | c :: l => if keep l = 0 then (if c = 0 then 0 else 1) else keep l + 1

def trim0 (l : List UInt8) : List UInt8 := l.take (keep l)
def bytesT (l : List UInt8) : List UInt8 := if keep l = 0 then [45] else hexs (trim0 l)

/-- an op's word. -/
def wordL (k : Int) : List UInt8 :=
  if k = 1 then [98, 101, 103, 105, 110] else if k = 2 then [114, 101, 97, 100] else if k = 3 then [119, 114, 105, 116, 101]
  else if k = 4 then [99, 111, 109, 109, 105, 116] else if k = 5 then [97, 98, 111, 114, 116] else []

theorem hexs_snoc (l : List UInt8) (c : UInt8) : hexs (l ++ [c]) = hexs l ++ hex2 c := by simp [hexs]
theorem hexs_length (l : List UInt8) : (hexs l).length = 2 * l.length := by
  induction l with
  | nil => rfl
  | cons c l ih =>
    have e : hexs (c :: l) = hex2 c ++ hexs l := by simp [hexs]
    rw [e, List.length_append, ih]
    simp [hex2]; omega

theorem keep_le (l : List UInt8) : keep l ≤ l.length := by
  induction l with
  | nil => simp [keep]
  | cons c l ih =>
    simp only [keep, List.length_cons]
    split
    · split <;> omega
    · omega

theorem keep_snoc_zero (l : List UInt8) : keep (l ++ [0]) = keep l := by
  induction l with
  | nil => simp [keep]
  | cons c l ih => simp [keep, ih]

theorem keep_snoc (l : List UInt8) (c : UInt8) (h : c ≠ 0) : keep (l ++ [c]) = l.length + 1 := by
  induction l with
  | nil => simp [keep, h]
  | cons d l ih => simp [keep, ih]

/-- the two digits at place i of a text, and the byte that they are. -/
def hiD (s : List UInt8) (i : Nat) : Int := dig (s.getD (2 * i) 0).toNat
def loD (s : List UInt8) (i : Nat) : Int := dig (s.getD (2 * i + 1) 0).toNat
def okD (s : List UInt8) (i : Nat) : Bool := decide (0 ≤ hiD s i) && decide (0 ≤ loD s i)
def byteD (s : List UInt8) (i : Nat) : UInt8 := UInt8.ofNat (hiD s i * 16 + loD s i).toNat
/-- forty bytes, of which the first i are read. -/
def fortyD (s : List UInt8) (i : Nat) : List UInt8 := (List.range i).map (byteD s) ++ List.replicate (40 - i) 0
/-- the bytes of a text of 2n digits, if it is one's. -/
def unbytesN (s : List UInt8) (n : Nat) : Option (List UInt8) :=
  if (List.range n).all (okD s) then (if bytesT (fortyD s n) = s then some (fortyD s n) else none) else none
/-- the bytes of a text, if it is one's. -/
def unbytesT (s : List UInt8) : Option (List UInt8) :=
  if s = [45] then some (List.replicate 40 0)
  else if s.length % 2 ≠ 0 ∨ 80 < s.length then none
  else unbytesN s (s.length / 2)

theorem dig_le (c : Int) : -1 ≤ dig c ∧ dig c ≤ 15 := by unfold dig; split <;> (try split) <;> omega
theorem fortyD_length (s : List UInt8) (i : Nat) (h : i ≤ 40) : (fortyD s i).length = 40 := by simp [fortyD]; omega
theorem fortyD_zero (s : List UInt8) : fortyD s 0 = List.replicate 40 0 := by simp [fortyD]
theorem fortyD_succ (s : List UInt8) (i : Nat) (h : i < 40) : (fortyD s i).set i (byteD s i) = fortyD s (i + 1) := by
  unfold fortyD
  rw [List.set_append_right _ _ (by simp), List.range_succ, show 40 - i = (40 - (i + 1)) + 1 by omega, List.replicate_succ]
  simp

theorem unbytesN_bad {s : List UInt8} {n i : Nat} (h : i < n) (hb : okD s i = false) : unbytesN s n = none := by
  unfold unbytesN
  rw [if_neg]
  intro hall
  rw [List.all_eq_true] at hall
  have := hall i (List.mem_range.2 h)
  rw [hb] at this
  cases this
theorem okD_succ {s : List UInt8} {i : Nat} (h : (List.range i).all (okD s) = true) (hg : okD s i = true) : (List.range (i + 1)).all (okD s) = true := by
  rw [List.range_succ, List.all_append, h]
  simp [hg]

theorem okD_bad {s : List UInt8} {i : Nat} (h : ¬ (0 ≤ hiD s i ∧ 0 ≤ loD s i)) : okD s i = false := by
  unfold okD
  rw [Bool.and_eq_false_iff, decide_eq_false_iff_not, decide_eq_false_iff_not]
  omega
theorem okD_good {s : List UInt8} {i : Nat} (h : 0 ≤ hiD s i ∧ 0 ≤ loD s i) : okD s i = true := by
  unfold okD; simp [h.1, h.2]
theorem byteD_toNat {s : List UInt8} {i : Nat} (h : 0 ≤ hiD s i ∧ 0 ≤ loD s i) : ((byteD s i).toNat : Int) = hiD s i * 16 + loD s i := by
  have h1 := (dig_le (s.getD (2 * i) 0).toNat).2
  have h2 := (dig_le (s.getD (2 * i + 1) 0).toNat).2
  have h3 : hiD s i ≤ 15 := h1
  have h4 : loD s i ≤ 15 := h2
  unfold byteD
  rw [UInt8.toNat_ofNat']
  omega

/-- decimal digits, none for 0. -/
def decD (u : Nat) : List UInt8 := if _h : u = 0 then [] else decD (u / 10) ++ [UInt8.ofNat (48 + u % 10)]
termination_by u
decreasing_by omega
theorem decD_zero : decD 0 = [] := by unfold decD; rfl
theorem decD_pos {u : Nat} (h : 0 < u) : decD u = decD (u / 10) ++ [UInt8.ofNat (48 + u % 10)] := by rw [decD, dif_neg (by omega)]
theorem decD_eq (u : Nat) (h : 0 < u) : decD u = Lib.decDigits u := by
  induction u using Nat.strongRecOn with
  | ind u ih =>
    rw [decD_pos h, Lib.decDigits]
    by_cases h10 : u < 10
    · rw [dif_pos h10, show u / 10 = 0 by omega, decD_zero, show u % 10 = u by omega]; rfl
    · rw [dif_neg h10, ih (u / 10) (by omega) (by omega)]
theorem decD_step {u U : Nat} {l : List UInt8} (h : 0 < u) (hU : decD U = decD u ++ l) : decD U = decD (u / 10) ++ (UInt8.ofNat (48 + u % 10) :: l) := by
  rw [hU, decD_pos h]; simp
theorem decD_length (u : Nat) : ∀ k, u < 10 ^ k → (decD u).length ≤ k := by
  induction u using Nat.strongRecOn with
  | ind u ih =>
    intro k hk
    by_cases h0 : u = 0
    · subst h0; rw [decD_zero]; simp
    · cases k with
      | zero => simp at hk; omega
      | succ k =>
        rw [decD_pos (by omega), List.length_append]
        have := ih (u / 10) (by omega) k (by rw [Nat.pow_succ] at hk; omega)
        simp; omega

/-- the words of a text: cut at each blank. -/
def words : List UInt8 → List (List UInt8)
  | [] => [[]]
  | c :: r => if c = 32 then [] :: words r else match words r with
    | w :: ws => (c :: w) :: ws
    | [] => [[c]]

theorem words_ne (l : List UInt8) : words l ≠ [] := by
  cases l with
  | nil => simp [words]
  | cons c r =>
    unfold words
    split
    · simp
    · split <;> simp

theorem words_none : ∀ (l : List UInt8), (∀ c ∈ l, c ≠ 32) → words l = [l]
  | [], _ => rfl
  | c :: r, h => by
    unfold words
    rw [if_neg (h c (by simp)), words_none r fun x hx => h x (by simp [hx])]

theorem words_cut : ∀ (a b : List UInt8), (∀ c ∈ a, c ≠ 32) → words (a ++ 32 :: b) = a :: words b
  | [], b, _ => by simp [words]
  | c :: r, b, h => by
    rw [List.cons_append, words, if_neg (h c (by simp)), words_cut r b fun x hx => h x (by simp [hx])]

theorem words_length (l : List UInt8) : (words l).length ≤ l.length + 1 := by
  induction l with
  | nil => simp [words]
  | cons c r ih =>
    unfold words
    split
    · simp; omega
    · split
      · rename_i h; rw [h] at ih; simp at ih ⊢; omega
      · simp

/-- where a cut from place f on stands at place i: W is cut already. -/
def CutAt (s : List UInt8) (i f : Nat) (W : List (List UInt8)) : Prop :=
  (i ≤ s.length ∧ f ≤ i ∧ words s = W ++ words (s.drop f) ∧ ∀ j, f ≤ j → j < i → s.getD j 0 ≠ 32) ∨ (i = s.length + 1 ∧ words s = W)

theorem cutAt_zero (s : List UInt8) : CutAt s 0 0 [] := Or.inl ⟨Nat.zero_le _, Nat.le_refl _, by simp, fun j _ h => by omega⟩

theorem piece_free {s : List UInt8} {i f : Nat} (hi : i ≤ s.length) (h : ∀ j, f ≤ j → j < i → s.getD j 0 ≠ 32) : ∀ c ∈ (s.drop f).take (i - f), c ≠ 32 := by
  intro c hc
  obtain ⟨k, hk, he⟩ := List.getElem_of_mem hc
  have hk' : k < i - f := by simp at hk; omega
  have hk2 : f + k < s.length := by omega
  have := h (f + k) (by omega) (by omega)
  rw [List.getD_eq_getElem?_getD, List.getElem?_eq_getElem hk2] at this
  rw [← he, List.getElem_take, List.getElem_drop]
  simpa using this

theorem cutAt_blank {s : List UInt8} {i f : Nat} {W : List (List UInt8)} (hi : i < s.length) (h : CutAt s i f W) (hb : s.getD i 0 = 32) : CutAt s (i + 1) (i + 1) (W ++ [(s.drop f).take (i - f)]) := by
  rcases h with ⟨_, hf, hw, hn⟩ | ⟨h, _⟩
  · left
    refine ⟨by omega, Nat.le_refl _, ?_, fun j h1 h2 => by omega⟩
    have hp := piece_free (by omega) hn
    have hs : s.drop f = (s.drop f).take (i - f) ++ 32 :: s.drop (i + 1) := by
      have h1 : s.drop i = 32 :: s.drop (i + 1) := by
        rw [List.drop_eq_getElem_cons hi]
        rw [List.getD_eq_getElem?_getD, List.getElem?_eq_getElem hi] at hb
        simp only [Option.getD_some] at hb
        rw [hb]
      have h2 : s.drop i = (s.drop f).drop (i - f) := by rw [List.drop_drop]; congr 1; omega
      rw [← h1, h2, List.take_append_drop]
    rw [hw]
    rw [hs, words_cut _ _ hp, ← hs]
    simp
  · omega

theorem cutAt_end {s : List UInt8} {f : Nat} {W : List (List UInt8)} (h : CutAt s s.length f W) : CutAt s (s.length + 1) (s.length + 1) (W ++ [(s.drop f).take (s.length - f)]) := by
  rcases h with ⟨_, hf, hw, hn⟩ | ⟨h, _⟩
  · right
    refine ⟨rfl, ?_⟩
    have hp := piece_free (Nat.le_refl _) hn
    have hs : (s.drop f).take (s.length - f) = s.drop f := List.take_of_length_le (by simp)
    rw [hs] at hp ⊢
    rw [hw, words_none _ hp]
  · omega

theorem cutAt_other {s : List UInt8} {i f : Nat} {W : List (List UInt8)} (hi : i < s.length) (h : CutAt s i f W) (hb : s.getD i 0 ≠ 32) : CutAt s (i + 1) f W := by
  rcases h with ⟨_, hf, hw, hn⟩ | ⟨h, _⟩
  · left
    refine ⟨by omega, by omega, hw, fun j h1 h2 => ?_⟩
    rcases Nat.lt_or_ge j i with h3 | h3
    · exact hn j h1 h3
    · obtain rfl : j = i := by omega
      exact hb
  · omega

theorem cutAt_length {s : List UInt8} {i f : Nat} {W : List (List UInt8)} (h : CutAt s i f W) : W.length ≤ s.length + 1 := by
  have := words_length s
  rcases h with ⟨_, _, hw, _⟩ | ⟨_, hw⟩
  · rw [hw, List.length_append] at this; omega
  · rw [hw] at this; exact this

/-- what the first k bytes of a numeral come to, read one by one; a sign ahead is passed by. -/
def preN (s : List UInt8) (neg : Bool) : Nat → Option Nat
  | 0 => some 0
  | k + 1 => match preN s neg k with
    | none => none
    | some n => if neg = true ∧ k = 0 then some n
      else if 48 ≤ (s.getD k 0).toNat ∧ (s.getD k 0).toNat ≤ 57 ∧ n ≤ 1099511627776 then some (10 * n + ((s.getD k 0).toNat - 48)) else none

def negN (s : List UInt8) : Bool := decide (s.head? = some 45)
def signN (b : Bool) (n : Nat) : Int := if b then -(n : Int) else n
/-- the number that a text is, in its one form, from -2^40 to 2^40. -/
def numT (s : List UInt8) : Option Int :=
  match preN s (negN s) s.length with
  | none => none
  | some n => if signN (negN s) n ≤ 1099511627776 ∧ -1099511627776 ≤ signN (negN s) n ∧ Lib.itoa (signN (negN s) n) = s then some (signN (negN s) n) else none

theorem preN_succ (s : List UInt8) (neg : Bool) (k n : Nat) (h : preN s neg k = some n) : preN s neg (k + 1) = if neg = true ∧ k = 0 then some n
      else if 48 ≤ (s.getD k 0).toNat ∧ (s.getD k 0).toNat ≤ 57 ∧ n ≤ 1099511627776 then some (10 * n + ((s.getD k 0).toNat - 48)) else none := by
  rw [preN, h]

theorem preN_none (s : List UInt8) (neg : Bool) {k : Nat} (h : preN s neg k = none) : ∀ j, k ≤ j → preN s neg j = none := by
  intro j hj
  induction hj with
  | refl => exact h
  | step _ ih => rw [preN, ih]

theorem preN_le (s : List UInt8) (neg : Bool) {k n : Nat} (h : preN s neg k = some n) : n ≤ 10995116277769 := by
  cases k with
  | zero => simp only [preN, Option.some.injEq] at h; omega
  | succ k =>
    rw [preN] at h
    split at h
    · cases h
    · rename_i m hm
      split at h
      · have := preN_le s neg hm
        simp only [Option.some.injEq] at h; omega
      · split at h
        · simp only [Option.some.injEq] at h; omega
        · cases h

end Go.Proofs.YtfdkafmomkkapaaGreatDoor
