/- The plain functions of reading ops. No program in this text. -/
import Derived.Test.YtfdkafmomkkapaaGreatDoorPl2
namespace Go.Proofs.YtfdkafmomkkapaaGreatDoor

/-- a numeral's number, from -2^40 to 2^40. -/
def atoiIn (l : List UInt8) : Option Int :=
  match Lib.atoiAll l with
  | .ok v => if -1099511627776 ≤ v ∧ v ≤ 1099511627776 then some v else none
  | _ => none

/-- a reader's next word; is it at its end, or bad; what is left. -/
def nextB (ws : List (List UInt8)) (bad : Bool) : Bool := bad || ws.isEmpty
def nextW (ws : List (List UInt8)) (bad : Bool) : List UInt8 := if nextB ws bad then [] else ws.headD []
def nextS (ws : List (List UInt8)) (bad : Bool) : List (List UInt8) := if nextB ws bad then ws else ws.tail

theorem nextS_length (ws : List (List UInt8)) (bad : Bool) : (nextS ws bad).length ≤ ws.length := by
  unfold nextS; split
  · exact Nat.le_refl _
  · rw [List.length_tail]; omega

/-- the puts that words are. -/
def loopW : List (List UInt8) → List (Int × List UInt8) → Option (List (Int × List UInt8))
  | [], p => some p
  | [_], _ => none
  | a :: b :: r, p => match atoiIn a, unbytesT b with
    | some v, some d => loopW r (p ++ [(v, d)])
    | _, _ => none

/-- an op: kind, handle, LBA, length, puts. -/
abbrev OpD := Int × Int × Int × Int × List (Int × List UInt8)
def textO (o : OpD) : List UInt8 := textT o.1 o.2.1 o.2.2.1 o.2.2.2.1 o.2.2.2.2

def candR (rest : List (List UInt8)) : Option OpD :=
  match rest with
  | x :: y :: z :: _ => match atoiIn x, atoiIn y, atoiIn z with
    | some h, some a, some n => some (2, h, a, n, [])
    | _, _, _ => none
  | _ => none
def candW (rest : List (List UInt8)) : Option OpD :=
  match rest with
  | x :: r => match atoiIn x, loopW r [] with
    | some h, some l => some (3, h, 0, 0, l)
    | _, _ => none
  | [] => none
def candC (k : Int) (rest : List (List UInt8)) : Option OpD :=
  match rest with
  | x :: _ => match atoiIn x with
    | some h => some (k, h, 0, 0, [])
    | none => none
  | [] => none
def candA (f : List UInt8) (rest : List (List UInt8)) : Option OpD :=
  if f = wordL 1 then some (1, 0, 0, 0, [])
  else if f = wordL 2 then candR rest
  else if f = wordL 3 then candW rest
  else if f = wordL 4 then candC 4 rest
  else if f = wordL 5 then candC 5 rest
  else none
/-- what Parse reads. -/
def parseA (s : List UInt8) : Option OpD :=
  match words s with
  | [] => none
  | f :: rest => match candA f rest with
    | some o => if textO o = s then some o else none
    | none => none

end Go.Proofs.YtfdkafmomkkapaaGreatDoor
