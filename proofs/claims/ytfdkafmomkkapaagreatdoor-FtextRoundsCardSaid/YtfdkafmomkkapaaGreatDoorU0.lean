/- The plain functions of numbers' texts: bits, hex digits, the text. No program in this text. -/
import Derived.Test.YtfdkafmomkkapaaGreatDoorPl2
import Ieee.Arith
namespace Go.Proofs.YtfdkafmomkkapaaGreatDoor
open Go.Lib

def nanB : Nat := 9221120237041090560
def infB : Nat := 9218868437227405312
def signB : Nat := 9223372036854775808
/-- the bits without the sign. -/
def magB (b : Nat) : Nat := b % 9223372036854775808
def isNaNB (b : Nat) : Bool := decide (9218868437227405312 < magB b)
/-- any NaN as the one. -/
def canB (b : Nat) : Nat := if isNaNB b then nanB else b
/-- bits of a number as the functions hand it out: any NaN is the one. -/
def CanB (b : Nat) : Prop := b < 18446744073709551616 ∧ (isNaNB b = true → b = nanB)

theorem canB_can {b : Nat} (h : b < 18446744073709551616) : CanB (canB b) := by
  unfold canB
  split
  · exact ⟨by decide, fun _ => rfl⟩
  · rename_i hn; exact ⟨h, fun e => absurd e hn⟩
theorem canB_self {b : Nat} (h : CanB b) : canB b = b := by
  unfold canB; split
  · rename_i hn; exact (h.2 hn).symm
  · rfl

/-! reading a word -/
theorem read_nan {b : Nat} : (Ieee.double.read b).isNaN = isNaNB b := by
  unfold Ieee.Format.read
  have e1 : Ieee.double.signWeight = 9223372036854775808 := by decide
  have e2 : Ieee.double.binade = 4503599627370496 := by decide
  have e3 : Ieee.double.infRung = 9218868437227405312 := by decide
  simp only [e1, e2, e3]
  unfold isNaNB magB
  split
  · rename_i h; simp [Ieee.Datum.isNaN]; omega
  · split
    · rename_i h; simp [Ieee.Datum.isNaN]; omega
    · split
      · rename_i h; simp [Ieee.Datum.isNaN]; omega
      · rename_i h1 h2 h3; simp [Ieee.Datum.isNaN]; omega
theorem order_self (d : Ieee.Datum) : d.order d = if d.isNaN then none else some .eq := by
  cases d with
  | number s m e => simp [Ieee.Datum.order, Ieee.Datum.isNaN]
  | infinity s => simp [Ieee.Datum.order, Ieee.Datum.isNaN]
  | nan s t => simp [Ieee.Datum.order, Ieee.Datum.isNaN]
/-- x != x. -/
theorem neq_self (b : Nat) : (Ieee.double.order b b != some .eq) = isNaNB b := by
  unfold Ieee.Format.order
  rw [order_self, read_nan]
  cases isNaNB b <;> rfl

/-! hex digits of a fraction, without noughts at the end -/
def hexN : Nat → Nat → List UInt8
  | 0, _ => []
  | n + 1, f => hexc (f / 281474976710656) :: hexN n (f % 281474976710656 * 16)
/-- the digits as the reference writes them: till nothing is left. -/
def hexR : Nat → Nat → List UInt8
  | 0, _ => []
  | n + 1, f => if f = 0 then [] else hexc (f / 281474976710656) :: hexR n (f % 281474976710656 * 16)
def hexF (f : Nat) : List UInt8 := hexR 13 f

def expT (e : Nat) : Int := if e = 0 then -1022 else (e : Int) - 1023
/-- the text of a number without its sign, by its exponent field and its fraction. -/
def absT (e f : Nat) : List UInt8 :=
  if e = 2047 then [105, 110, 102]
  else if e = 0 ∧ f = 0 then [48]
  else (if e = 0 then 48 else 49) :: ((if f = 0 then [] else 46 :: hexF f) ++ 112 :: itoa (expT e))
def expB (b : Nat) : Nat := magB b / 4503599627370496
def fracB (b : Nat) : Nat := b % 4503599627370496
/-- the text of a number. -/
def textF (b : Nat) : List UInt8 :=
  if isNaNB b then [110, 97, 110]
  else (if 9223372036854775808 ≤ b then [45] else []) ++ absT (expB b) (fracB b)
end Go.Proofs.YtfdkafmomkkapaaGreatDoor
