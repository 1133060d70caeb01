/-
  No cell of these rows narrows 'for every input' (looked for: loops, veiled, ifaces, maps, wideKeys, modest, calm, conditions, laid).
  DERIVED. THE GIVEN ROWS OF THIS SEAT. 4 by the template 'for every input the law returns true; each argument reads behind the call as it read before'; 0 by the template 'total and deterministic' (their statements: YtelakcjbknbehaaGreatTotals.lean).
  GIVEN WITH THE SEED: the statements are not yours to turn. If you find one false, say at which input.
  Laid BY PROGRAM, IN A SANDBOX (cutbox-rows.mjs): the forced cells as the released guide's own fill.sh prints them over the translation edc35926c537c8fc… (all of the seat's roots in one cut). By AI agents, Wed Nov 11 2026. No macro, syntax, notation, axiom, sorry.
-/
import Derived.Test.YtelakcjbknbehaaGreatChecked
import GoSem.Claim
import GoSem.ClaimJoined
import GoSem.ClaimMapViews
import Derived.JoinedTies
import Derived.KernelRfl
namespace Go.Proofs.YtelakcjbknbehaaGreat
/- THE CELL 'sum', in the pinned program and in every row, IS THE sha256 OF THE DUMP (.gsa) THAT YtelakcjbknbehaaGreatProg.lean LOADS. Nothing in Lean hashes anything: it is a label: what it is worth is what the hold of that sum in a sandbox is worth. -/
noncomputable def Tryz.pinned : Pinned := { name := "ytelakcjbknbehaagreat", sum := "edc35926c537c8fcda6f1be4546b773456a3830ad8415c14059282046d187d0c", checked := Tryz.checked }
namespace Rows
def none {H : Type} : Left H := { results := [], args := [] }

/-- 'scarplaw27.QueryParts': WHATEVER THE INPUT: true; the input reads as it did. -/
def queryPartsSpec : ChangeSpec := { name := "queryParts", fn := fun _ => fun
  | [d1, d2, d3, d4, d5] => { results := [.lit (.bool true)], args := [d1, d2, d3, d4, d5] }
  | _ => none }
def queryPartsRow : OpenClaim := { program := "ytelakcjbknbehaagreat", sum := "edc35926c537c8fcda6f1be4546b773456a3830ad8415c14059282046d187d0c", func := "scarp/scarplaw27.QueryParts", spec := "queryParts", inPlace := ["math.Float64frombits", "math.Float64bits"], unfollowed := true, recurses := true, apart := false }
def QueryPartsSaid : Prop := queryPartsRow.holds Tryz.pinned (OpenSpec.ofChange queryPartsSpec)

/-- ITS FALSE NEIGHBOUR: 'it returns false'. Refute it at one input. -/
def queryPartsWrong : ChangeSpec := { name := "queryParts", fn := fun _ => fun
  | [d1, d2, d3, d4, d5] => { results := [.lit (.bool false)], args := [d1, d2, d3, d4, d5] }
  | _ => none }
def QueryPartsWrongFalsely : Prop := queryPartsRow.holds Tryz.pinned (OpenSpec.ofChange queryPartsWrong)

/-- 'scarplaw27.QuerySnaps': WHATEVER THE INPUT: true; the input reads as it did. -/
def querySnapsSpec : ChangeSpec := { name := "querySnaps", fn := fun _ => fun
  | [d1, d2, d3, d4] => { results := [.lit (.bool true)], args := [d1, d2, d3, d4] }
  | _ => none }
def querySnapsRow : OpenClaim := { program := "ytelakcjbknbehaagreat", sum := "edc35926c537c8fcda6f1be4546b773456a3830ad8415c14059282046d187d0c", func := "scarp/scarplaw27.QuerySnaps", spec := "querySnaps", inPlace := ["math.Float64frombits", "math.Float64bits"], unfollowed := true, recurses := true, apart := false }
def QuerySnapsSaid : Prop := querySnapsRow.holds Tryz.pinned (OpenSpec.ofChange querySnapsSpec)

/-- ITS FALSE NEIGHBOUR: 'it returns false'. Refute it at one input. -/
def querySnapsWrong : ChangeSpec := { name := "querySnaps", fn := fun _ => fun
  | [d1, d2, d3, d4] => { results := [.lit (.bool false)], args := [d1, d2, d3, d4] }
  | _ => none }
def QuerySnapsWrongFalsely : Prop := querySnapsRow.holds Tryz.pinned (OpenSpec.ofChange querySnapsWrong)

/-- 'scarplaw27.QueryAsks': WHATEVER THE INPUT: true; the input reads as it did. -/
def queryAsksSpec : ChangeSpec := { name := "queryAsks", fn := fun _ => fun
  | [d1, d2, d3, d4, d5] => { results := [.lit (.bool true)], args := [d1, d2, d3, d4, d5] }
  | _ => none }
def queryAsksRow : OpenClaim := { program := "ytelakcjbknbehaagreat", sum := "edc35926c537c8fcda6f1be4546b773456a3830ad8415c14059282046d187d0c", func := "scarp/scarplaw27.QueryAsks", spec := "queryAsks", inPlace := ["math.Float64frombits", "math.Float64bits", "math.archFloor", "math.archTrunc"], unfollowed := true, recurses := true, apart := false }
def QueryAsksSaid : Prop := queryAsksRow.holds Tryz.pinned (OpenSpec.ofChange queryAsksSpec)

/-- ITS FALSE NEIGHBOUR: 'it returns false'. Refute it at one input. -/
def queryAsksWrong : ChangeSpec := { name := "queryAsks", fn := fun _ => fun
  | [d1, d2, d3, d4, d5] => { results := [.lit (.bool false)], args := [d1, d2, d3, d4, d5] }
  | _ => none }
def QueryAsksWrongFalsely : Prop := queryAsksRow.holds Tryz.pinned (OpenSpec.ofChange queryAsksWrong)

/-- 'scarplaw27.QueryEnds': WHATEVER THE INPUT: true; the input reads as it did. -/
def queryEndsSpec : ChangeSpec := { name := "queryEnds", fn := fun _ => fun
  | [d1, d2, d3, d4] => { results := [.lit (.bool true)], args := [d1, d2, d3, d4] }
  | _ => none }
def queryEndsRow : OpenClaim := { program := "ytelakcjbknbehaagreat", sum := "edc35926c537c8fcda6f1be4546b773456a3830ad8415c14059282046d187d0c", func := "scarp/scarplaw27.QueryEnds", spec := "queryEnds", inPlace := ["math.Float64frombits", "math.Float64bits", "math.archFloor", "math.archTrunc"], unfollowed := true, recurses := true, apart := false }
def QueryEndsSaid : Prop := queryEndsRow.holds Tryz.pinned (OpenSpec.ofChange queryEndsSpec)

/-- ITS FALSE NEIGHBOUR: 'it returns false'. Refute it at one input. -/
def queryEndsWrong : ChangeSpec := { name := "queryEnds", fn := fun _ => fun
  | [d1, d2, d3, d4] => { results := [.lit (.bool false)], args := [d1, d2, d3, d4] }
  | _ => none }
def QueryEndsWrongFalsely : Prop := queryEndsRow.holds Tryz.pinned (OpenSpec.ofChange queryEndsWrong)

/- THE SECOND FORM. 'bulk': how many values and letters a reading holds, each counted each time it is reached (what is shared counts as often as it is met; a slice's spare places count too). A statement '..UptoSaid' is the law's where the arguments, and the package variables that the reading takes, are together of bulk at most 1048576: NARROWER than '..Said'. Prove '..Said' where nothing that the law and all that it calls make is longer than what came in: it says more and counts as full. Else prove '..UptoSaid'. A law counts once. -/
mutual
def uptoBulk {H : Type} : DataW H → Nat
  | .lit (.string bytes) => bytes.length + 1
  | .lit _ => 1
  | .nil => 1
  | .ptr d => uptoBulk d + 1
  | .slice elems spare => uptoBulkAll elems + uptoBulkAll spare + 1
  | .agg parts => uptoBulkAll parts + 1
  | .iface _ d => uptoBulk d + 1
  | .map entries => uptoBulkEntries entries + 1
  | .held _ => 1
def uptoBulkAll {H : Type} : List (DataW H) → Nat
  | [] => 0
  | d :: r => uptoBulk d + uptoBulkAll r
def uptoBulkEntries {H : Type} : List (Lit × DataW H) → Nat
  | [] => 0
  | x :: r => uptoBulkEntry x + uptoBulkEntries r
def uptoBulkEntry {H : Type} : Lit × DataW H → Nat
  | (.string bytes, d) => bytes.length + uptoBulk d + 1
  | (_, d) => uptoBulk d + 1
 end
def uptoSmall : (H : Type) → List (DataW H) → Bool := fun _ ds => decide (uptoBulkAll ds ≤ 1048576)
def OpenSpec.upto (s : _root_.Go.ChangeSpec) : _root_.Go.OpenSpec := { _root_.Go.OpenSpec.ofChange s with cond := some uptoSmall }

/-- 'scarplaw27.QueryParts', WHERE WHAT IT READS IS OF BULK AT MOST 1048576: true; the input reads as it did. -/
def queryPartsUptoRow : OpenClaim := { program := "ytelakcjbknbehaagreat", sum := "edc35926c537c8fcda6f1be4546b773456a3830ad8415c14059282046d187d0c", func := "scarp/scarplaw27.QueryParts", spec := "queryParts", inPlace := ["math.Float64frombits", "math.Float64bits"], unfollowed := true, recurses := true, apart := false, narrowed := true }
def QueryPartsUptoSaid : Prop := queryPartsUptoRow.holds Tryz.pinned (OpenSpec.upto queryPartsSpec)

/-- 'scarplaw27.QuerySnaps', WHERE WHAT IT READS IS OF BULK AT MOST 1048576: true; the input reads as it did. -/
def querySnapsUptoRow : OpenClaim := { program := "ytelakcjbknbehaagreat", sum := "edc35926c537c8fcda6f1be4546b773456a3830ad8415c14059282046d187d0c", func := "scarp/scarplaw27.QuerySnaps", spec := "querySnaps", inPlace := ["math.Float64frombits", "math.Float64bits"], unfollowed := true, recurses := true, apart := false, narrowed := true }
def QuerySnapsUptoSaid : Prop := querySnapsUptoRow.holds Tryz.pinned (OpenSpec.upto querySnapsSpec)

/-- 'scarplaw27.QueryAsks', WHERE WHAT IT READS IS OF BULK AT MOST 1048576: true; the input reads as it did. -/
def queryAsksUptoRow : OpenClaim := { program := "ytelakcjbknbehaagreat", sum := "edc35926c537c8fcda6f1be4546b773456a3830ad8415c14059282046d187d0c", func := "scarp/scarplaw27.QueryAsks", spec := "queryAsks", inPlace := ["math.Float64frombits", "math.Float64bits", "math.archFloor", "math.archTrunc"], unfollowed := true, recurses := true, apart := false, narrowed := true }
def QueryAsksUptoSaid : Prop := queryAsksUptoRow.holds Tryz.pinned (OpenSpec.upto queryAsksSpec)

/-- 'scarplaw27.QueryEnds', WHERE WHAT IT READS IS OF BULK AT MOST 1048576: true; the input reads as it did. -/
def queryEndsUptoRow : OpenClaim := { program := "ytelakcjbknbehaagreat", sum := "edc35926c537c8fcda6f1be4546b773456a3830ad8415c14059282046d187d0c", func := "scarp/scarplaw27.QueryEnds", spec := "queryEnds", inPlace := ["math.Float64frombits", "math.Float64bits", "math.archFloor", "math.archTrunc"], unfollowed := true, recurses := true, apart := false, narrowed := true }
def QueryEndsUptoSaid : Prop := queryEndsUptoRow.holds Tryz.pinned (OpenSpec.upto queryEndsSpec)

end Rows
end Go.Proofs.YtelakcjbknbehaaGreat
