/- Lemmas and walks. -/
import Derived.Lib.ItoaNum
import Derived.Lib.AtoiAll
import Derived.Lib.Split
import Derived.Lib.Join
import Ieee.Arith
namespace Go.Proofs.YtelakcjbknbehaaGreat

def keep : List UInt8 → Nat
 | [] => 0
 | c :: l => if keep l = 0 then (if c = 0 then 0 else 1) else keep l + 1

def words : List UInt8 → List (List UInt8)
 | [] => [[]]
 | c :: r => if c = 32 then [] :: words r else match words r with
  | w :: ws => (c :: w) :: ws
  | [] => [[c]]

end Go.Proofs.YtelakcjbknbehaaGreat
namespace Go.Proofs.YtelakcjbknbehaaGreat

end Go.Proofs.YtelakcjbknbehaaGreat
namespace Go.Proofs.YtelakcjbknbehaaGreat
open Go.Lib

def nanB : Nat := 9221120237041090560
def magB (b : Nat) : Nat := b % 9223372036854775808
def isNaNB (b : Nat) : Bool := decide (9218868437227405312 < magB b)
def canB (b : Nat) : Nat := if isNaNB b then nanB else b
def CanB (b : Nat) : Prop := b < 18446744073709551616 ∧ (isNaNB b = true → b = nanB)

theorem canB_can {b : Nat} (h : b < 18446744073709551616) : CanB (canB b) := by
 unfold canB
 split
 ·exact ⟨by decide, fun _ => rfl⟩
 ·rename_i hn; exact ⟨h, fun e => absurd e hn⟩
theorem canB_self {b : Nat} (h : CanB b) : canB b = b := by
 unfold canB; split
 ·rename_i hn; exact (h.2 hn).symm
 ·rfl

/-! reading a word -/
theorem read_nan {b : Nat} : (Ieee.double.read b).isNaN = isNaNB b := by
 unfold Ieee.Format.read
 have e1 : Ieee.double.signWeight = 9223372036854775808 := by decide
 have e2 : Ieee.double.binade = 4503599627370496 := by decide
 have e3 : Ieee.double.infRung = 9218868437227405312 := by decide
 simp only [e1, e2, e3]
 unfold isNaNB magB
 split
 ·rename_i h; simp [Ieee.Datum.isNaN]; omega
 ·split
  ·rename_i h; simp [Ieee.Datum.isNaN]; omega
  ·split
   ·rename_i h; simp [Ieee.Datum.isNaN]; omega
   ·rename_i h1 h2 h3; simp [Ieee.Datum.isNaN]; omega
theorem order_self (d : Ieee.Datum) : d.order d = if d.isNaN then none else some .eq := by
 cases d with
 | number s m e => simp [Ieee.Datum.order, Ieee.Datum.isNaN]
 | infinity s => simp [Ieee.Datum.order, Ieee.Datum.isNaN]
 | nan s t => simp [Ieee.Datum.order, Ieee.Datum.isNaN]
theorem neq_self (b : Nat) : (Ieee.double.order b b != some .eq) = isNaNB b := by
 unfold Ieee.Format.order
 rw [order_self, read_nan]
 cases isNaNB b <;> rfl

/-! hex digits of a fraction, without noughts at the end -/
def be8 (v : Nat) : List UInt8 :=
 [UInt8.ofNat (v / 72057594037927936), UInt8.ofNat (v / 281474976710656), UInt8.ofNat (v / 1099511627776), UInt8.ofNat (v / 4294967296), UInt8.ofNat (v / 16777216), UInt8.ofNat (v / 65536), UInt8.ofNat (v / 256), UInt8.ofNat v]
def de (v : Nat) : List UInt8 → Nat
 | [] => v
 | c :: l => de (v * 256 + c.toNat) l
theorem de_be8 {v : Nat} (h : v < 18446744073709551616) : de 0 (be8 v) = v := by
 simp only [be8, de, UInt8.toNat_ofNat']
 omega
theorem de_lt (l : List UInt8) (v : Nat) : de v l < (v + 1) * 256 ^ l.length := by
 induction l generalizing v with
 | nil => simp [de]
 | cons c l ih =>
  have := ih (v * 256 + c.toNat)
  have hc : c.toNat < 256 := c.toNat_lt
  have h2 : (v * 256 + c.toNat + 1) * 256 ^ l.length ≤ ((v + 1) * 256) * 256 ^ l.length := Nat.mul_le_mul_right _ (by omega)
  rw [List.length_cons, Nat.pow_succ, Nat.mul_comm (256 ^ l.length) 256, ← Nat.mul_assoc]
  exact Nat.lt_of_lt_of_le this h2
theorem de8_lt {l : List UInt8} (h : l.length = 8) : de 0 l < 18446744073709551616 := by
 have := de_lt l 0
 rw [h] at this
 simpa using this
def encB (x : Nat) : List UInt8 := be8 (canB x)
def decB (l : List UInt8) : Option Nat := if l.length = 8 ∧ canB (de 0 l) = de 0 l then some (de 0 l) else none
theorem encB_len (x : Nat) : (encB x).length = 8 := rfl
theorem decB_encB {x : Nat} (h : x < 18446744073709551616) : decB (encB x) = some (canB x) := by
 have hc := canB_can h
 have he : de 0 (encB x) = canB x := de_be8 hc.1
 unfold decB
 rw [he, if_pos ⟨rfl, canB_self hc⟩]
def packB (l : List Nat) : List UInt8 := l.flatMap encB
theorem packB_len (l : List Nat) : (packB l).length = 8 * l.length := by
 induction l with
 | nil => rfl
 | cons x l ih => unfold packB at *; rw [List.flatMap_cons, List.length_append, ih, encB_len, List.length_cons]; omega
theorem packB_cons (x : Nat) (l : List Nat) : packB (x :: l) = encB x ++ packB l := rfl
theorem packB_snoc (l : List Nat) (x : Nat) : packB (l ++ [x]) = packB l ++ encB x := by unfold packB; rw [List.flatMap_append]; simp
def unpackN : Nat → List UInt8 → Option (List Nat)
 | 0, _ => some []
 | n + 1, b => match decB (b.take 8) with
  | some x => (unpackN n (b.drop 8)).map (x :: ·)
  | none => none
theorem unpackN_pack (l : List Nat) (h : ∀ x ∈ l, x < 18446744073709551616) : unpackN l.length (packB l) = some (l.map canB) := by
 induction l with
 | nil => rfl
 | cons x l ih =>
  show (match decB ((packB (x :: l)).take 8) with
   | some y => (unpackN l.length ((packB (x :: l)).drop 8)).map (y :: ·)
   | none => none) = _
  have e1 : (packB (x :: l)).take 8 = encB x := by rw [packB_cons, ← encB_len x]; exact List.take_left
  have e2 : (packB (x :: l)).drop 8 = packB l := by rw [packB_cons, ← encB_len x]; exact List.drop_left
  rw [e1, e2, decB_encB (h x (by simp)), ih (fun y hy => h y (List.mem_cons_of_mem _ hy))]
  rfl
theorem unpackN_snoc (n : Nat) (b : List UInt8) (l : List Nat) (h : unpackN n b = some l) : unpackN (n + 1) b = match decB ((b.drop (8 * n)).take 8) with | some x => some (l ++ [x]) | none => none := by
 induction n generalizing b l with
 | zero =>
  simp only [unpackN] at h ⊢
  injection h with h; subst h
  rw [Nat.mul_zero, List.drop_zero]
  cases decB (b.take 8) <;> rfl
 | succ n ih =>
  rw [unpackN] at h
  rw [unpackN]
  cases hd : decB (b.take 8) with
  | none => rw [hd] at h; cases h
  | some x =>
   rw [hd] at h
   simp only at h ⊢
   cases hu : unpackN n (b.drop 8) with
   | none => rw [hu] at h; cases h
   | some k =>
    rw [hu] at h
    simp only [Option.map_some, Option.some.injEq] at h
    subst h
    rw [ih _ _ hu, List.drop_drop, show 8 + 8 * n = 8 * (n + 1) by omega]
    cases decB ((b.drop (8 * (n + 1))).take 8) <;> simp
theorem unpackN_no (n m : Nat) (b : List UInt8) (h : unpackN n b = none) : unpackN (n + m) b = none := by
 induction n generalizing b with
 | zero => cases h
 | succ n ih =>
  rw [unpackN] at h
  rw [show n + 1 + m = (n + m) + 1 by omega, unpackN]
  cases hd : decB (b.take 8) with
  | none => rfl
  | some x =>
   rw [hd] at h
   simp only at h ⊢
   cases hu : unpackN n (b.drop 8) with
   | none => rw [ih _ hu]; rfl
   | some k => rw [hu] at h; cases h
def unpackB (b : List UInt8) : Option (List Nat) := if b.length = 40 then unpackN 5 b else none
theorem unpackB_pack {l : List Nat} (hl : l.length = 5) (h : ∀ x ∈ l, x < 18446744073709551616) : unpackB (packB l) = some (l.map canB) := by
 unfold unpackB
 rw [if_pos (by rw [packB_len, hl]), ← hl, unpackN_pack l h]
def zeroB : List UInt8 := List.replicate 40 0
end Go.Proofs.YtelakcjbknbehaaGreat
