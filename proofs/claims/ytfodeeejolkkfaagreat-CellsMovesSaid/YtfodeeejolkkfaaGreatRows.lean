/-
  No cell of these rows narrows 'for every input' (looked for: loops, veiled, ifaces, maps, wideKeys, modest, calm, conditions, laid).
  DERIVED. THE GIVEN ROWS OF THIS SEAT. 6 by the template 'for every input the law returns true; each argument reads behind the call as it read before'; 0 by the template 'total and deterministic' (their statements: YtfodeeejolkkfaaGreatTotals.lean).
  GIVEN WITH THE SEED: the statements are not yours to turn. If you find one false, say at which input.
  Laid BY PROGRAM, IN A SANDBOX (cutbox-rows.mjs): the forced cells as the released guide's own fill.sh prints them over the translation 4b431e5c483ca2d3… (all of the seat's roots in one cut). By AI agents, Wed Nov 11 2026. No macro, syntax, notation, axiom, sorry.
-/
import Derived.Test.YtfodeeejolkkfaaGreatChecked
import GoSem.Claim
import GoSem.ClaimJoined
import GoSem.ClaimMapViews
import Derived.JoinedTies
import Derived.KernelRfl
namespace Go.Proofs.YtfodeeejolkkfaaGreat
/- THE CELL 'sum', in the pinned program and in every row, IS THE sha256 OF THE DUMP (.gsa) THAT YtfodeeejolkkfaaGreatProg.lean LOADS. Nothing in Lean hashes anything: it is a label: what it is worth is what the hold of that sum in a sandbox is worth. -/
noncomputable def Tryz.pinned : Pinned := { name := "ytfodeeejolkkfaagreat", sum := "4b431e5c483ca2d32a6241e3975db69085d384c15e8c1318b55f139d9be1cc20", checked := Tryz.checked }
namespace Rows
def none {H : Type} : Left H := { results := [], args := [] }

/-- 'scarplaw26.CellsCodes': WHATEVER THE INPUT: true; the input reads as it did. -/
def cellsCodesSpec : ChangeSpec := { name := "cellsCodes", fn := fun _ => fun
  | [d1, d2] => { results := [.lit (.bool true)], args := [d1, d2] }
  | _ => none }
def cellsCodesRow : OpenClaim := { program := "ytfodeeejolkkfaagreat", sum := "4b431e5c483ca2d32a6241e3975db69085d384c15e8c1318b55f139d9be1cc20", func := "scarp/scarplaw26.CellsCodes", spec := "cellsCodes", inPlace := ["math.Float64frombits", "math.Float64bits"], unfollowed := true, recurses := true, apart := false }
def CellsCodesSaid : Prop := cellsCodesRow.holds Tryz.pinned (OpenSpec.ofChange cellsCodesSpec)

/-- ITS FALSE NEIGHBOUR: 'it returns false'. Refute it at one input. -/
def cellsCodesWrong : ChangeSpec := { name := "cellsCodes", fn := fun _ => fun
  | [d1, d2] => { results := [.lit (.bool false)], args := [d1, d2] }
  | _ => none }
def CellsCodesWrongFalsely : Prop := cellsCodesRow.holds Tryz.pinned (OpenSpec.ofChange cellsCodesWrong)

/-- 'scarplaw26.CellsEdges': WHATEVER THE INPUT: true; the input reads as it did. -/
def cellsEdgesSpec : ChangeSpec := { name := "cellsEdges", fn := fun _ => fun
  | [d1, d2, d3] => { results := [.lit (.bool true)], args := [d1, d2, d3] }
  | _ => none }
def cellsEdgesRow : OpenClaim := { program := "ytfodeeejolkkfaagreat", sum := "4b431e5c483ca2d32a6241e3975db69085d384c15e8c1318b55f139d9be1cc20", func := "scarp/scarplaw26.CellsEdges", spec := "cellsEdges", inPlace := ["math.Float64frombits", "math.Float64bits"], unfollowed := true, recurses := true, apart := false }
def CellsEdgesSaid : Prop := cellsEdgesRow.holds Tryz.pinned (OpenSpec.ofChange cellsEdgesSpec)

/-- ITS FALSE NEIGHBOUR: 'it returns false'. Refute it at one input. -/
def cellsEdgesWrong : ChangeSpec := { name := "cellsEdges", fn := fun _ => fun
  | [d1, d2, d3] => { results := [.lit (.bool false)], args := [d1, d2, d3] }
  | _ => none }
def CellsEdgesWrongFalsely : Prop := cellsEdgesRow.holds Tryz.pinned (OpenSpec.ofChange cellsEdgesWrong)

/-- 'scarplaw26.CellsRefused': WHATEVER THE INPUT: true; the input reads as it did. -/
def cellsRefusedSpec : ChangeSpec := { name := "cellsRefused", fn := fun _ => fun
  | [d1, d2, d3] => { results := [.lit (.bool true)], args := [d1, d2, d3] }
  | _ => none }
def cellsRefusedRow : OpenClaim := { program := "ytfodeeejolkkfaagreat", sum := "4b431e5c483ca2d32a6241e3975db69085d384c15e8c1318b55f139d9be1cc20", func := "scarp/scarplaw26.CellsRefused", spec := "cellsRefused", inPlace := ["math.Float64frombits", "math.Float64bits"], unfollowed := true, recurses := true, apart := false }
def CellsRefusedSaid : Prop := cellsRefusedRow.holds Tryz.pinned (OpenSpec.ofChange cellsRefusedSpec)

/-- ITS FALSE NEIGHBOUR: 'it returns false'. Refute it at one input. -/
def cellsRefusedWrong : ChangeSpec := { name := "cellsRefused", fn := fun _ => fun
  | [d1, d2, d3] => { results := [.lit (.bool false)], args := [d1, d2, d3] }
  | _ => none }
def CellsRefusedWrongFalsely : Prop := cellsRefusedRow.holds Tryz.pinned (OpenSpec.ofChange cellsRefusedWrong)

/-- 'scarplaw26.CellsKeep': WHATEVER THE INPUT: true; the input reads as it did. -/
def cellsKeepSpec : ChangeSpec := { name := "cellsKeep", fn := fun _ => fun
  | [d1, d2, d3] => { results := [.lit (.bool true)], args := [d1, d2, d3] }
  | _ => none }
def cellsKeepRow : OpenClaim := { program := "ytfodeeejolkkfaagreat", sum := "4b431e5c483ca2d32a6241e3975db69085d384c15e8c1318b55f139d9be1cc20", func := "scarp/scarplaw26.CellsKeep", spec := "cellsKeep", inPlace := ["math.Float64frombits", "math.Float64bits"], unfollowed := true, recurses := true, apart := false }
def CellsKeepSaid : Prop := cellsKeepRow.holds Tryz.pinned (OpenSpec.ofChange cellsKeepSpec)

/-- ITS FALSE NEIGHBOUR: 'it returns false'. Refute it at one input. -/
def cellsKeepWrong : ChangeSpec := { name := "cellsKeep", fn := fun _ => fun
  | [d1, d2, d3] => { results := [.lit (.bool false)], args := [d1, d2, d3] }
  | _ => none }
def CellsKeepWrongFalsely : Prop := cellsKeepRow.holds Tryz.pinned (OpenSpec.ofChange cellsKeepWrong)

/-- 'scarplaw26.CellsMoves': WHATEVER THE INPUT: true; the input reads as it did. -/
def cellsMovesSpec : ChangeSpec := { name := "cellsMoves", fn := fun _ => fun
  | [d1, d2] => { results := [.lit (.bool true)], args := [d1, d2] }
  | _ => none }
def cellsMovesRow : OpenClaim := { program := "ytfodeeejolkkfaagreat", sum := "4b431e5c483ca2d32a6241e3975db69085d384c15e8c1318b55f139d9be1cc20", func := "scarp/scarplaw26.CellsMoves", spec := "cellsMoves", inPlace := ["math.Float64frombits", "math.Float64bits"], unfollowed := true, recurses := true, apart := false }
def CellsMovesSaid : Prop := cellsMovesRow.holds Tryz.pinned (OpenSpec.ofChange cellsMovesSpec)

/-- ITS FALSE NEIGHBOUR: 'it returns false'. Refute it at one input. -/
def cellsMovesWrong : ChangeSpec := { name := "cellsMoves", fn := fun _ => fun
  | [d1, d2] => { results := [.lit (.bool false)], args := [d1, d2] }
  | _ => none }
def CellsMovesWrongFalsely : Prop := cellsMovesRow.holds Tryz.pinned (OpenSpec.ofChange cellsMovesWrong)

/-- 'scarplaw27.QueryRefused': WHATEVER THE INPUT: true; the input reads as it did. -/
def queryRefusedSpec : ChangeSpec := { name := "queryRefused", fn := fun _ => fun
  | [d1, d2] => { results := [.lit (.bool true)], args := [d1, d2] }
  | _ => none }
def queryRefusedRow : OpenClaim := { program := "ytfodeeejolkkfaagreat", sum := "4b431e5c483ca2d32a6241e3975db69085d384c15e8c1318b55f139d9be1cc20", func := "scarp/scarplaw27.QueryRefused", spec := "queryRefused", inPlace := ["math.Float64frombits", "math.Float64bits"], unfollowed := true, recurses := true, apart := false }
def QueryRefusedSaid : Prop := queryRefusedRow.holds Tryz.pinned (OpenSpec.ofChange queryRefusedSpec)

/-- ITS FALSE NEIGHBOUR: 'it returns false'. Refute it at one input. -/
def queryRefusedWrong : ChangeSpec := { name := "queryRefused", fn := fun _ => fun
  | [d1, d2] => { results := [.lit (.bool false)], args := [d1, d2] }
  | _ => none }
def QueryRefusedWrongFalsely : Prop := queryRefusedRow.holds Tryz.pinned (OpenSpec.ofChange queryRefusedWrong)

/- THE SECOND FORM. 'bulk': how many values and letters a reading holds, each counted each time it is reached (what is shared counts as often as it is met; a slice's spare places count too). A statement '..UptoSaid' is the law's where the arguments, and the package variables that the reading takes, are together of bulk at most 1048576: NARROWER than '..Said'. Prove '..Said' where nothing that the law and all that it calls make is longer than what came in: it says more and counts as full. Else prove '..UptoSaid'. A law counts once. -/
mutual
def uptoBulk {H : Type} : DataW H → Nat
  | .lit (.string bytes) => bytes.length + 1
  | .lit _ => 1
  | .nil => 1
  | .ptr d => uptoBulk d + 1
  | .slice elems spare => uptoBulkAll elems + uptoBulkAll spare + 1
  | .agg parts => uptoBulkAll parts + 1
  | .iface _ d => uptoBulk d + 1
  | .map entries => uptoBulkEntries entries + 1
  | .held _ => 1
def uptoBulkAll {H : Type} : List (DataW H) → Nat
  | [] => 0
  | d :: r => uptoBulk d + uptoBulkAll r
def uptoBulkEntries {H : Type} : List (Lit × DataW H) → Nat
  | [] => 0
  | x :: r => uptoBulkEntry x + uptoBulkEntries r
def uptoBulkEntry {H : Type} : Lit × DataW H → Nat
  | (.string bytes, d) => bytes.length + uptoBulk d + 1
  | (_, d) => uptoBulk d + 1
 end
def uptoSmall : (H : Type) → List (DataW H) → Bool := fun _ ds => decide (uptoBulkAll ds ≤ 1048576)
def OpenSpec.upto (s : _root_.Go.ChangeSpec) : _root_.Go.OpenSpec := { _root_.Go.OpenSpec.ofChange s with cond := some uptoSmall }

/-- 'scarplaw26.CellsCodes', WHERE WHAT IT READS IS OF BULK AT MOST 1048576: true; the input reads as it did. -/
def cellsCodesUptoRow : OpenClaim := { program := "ytfodeeejolkkfaagreat", sum := "4b431e5c483ca2d32a6241e3975db69085d384c15e8c1318b55f139d9be1cc20", func := "scarp/scarplaw26.CellsCodes", spec := "cellsCodes", inPlace := ["math.Float64frombits", "math.Float64bits"], unfollowed := true, recurses := true, apart := false, narrowed := true }
def CellsCodesUptoSaid : Prop := cellsCodesUptoRow.holds Tryz.pinned (OpenSpec.upto cellsCodesSpec)

/-- 'scarplaw26.CellsEdges', WHERE WHAT IT READS IS OF BULK AT MOST 1048576: true; the input reads as it did. -/
def cellsEdgesUptoRow : OpenClaim := { program := "ytfodeeejolkkfaagreat", sum := "4b431e5c483ca2d32a6241e3975db69085d384c15e8c1318b55f139d9be1cc20", func := "scarp/scarplaw26.CellsEdges", spec := "cellsEdges", inPlace := ["math.Float64frombits", "math.Float64bits"], unfollowed := true, recurses := true, apart := false, narrowed := true }
def CellsEdgesUptoSaid : Prop := cellsEdgesUptoRow.holds Tryz.pinned (OpenSpec.upto cellsEdgesSpec)

/-- 'scarplaw26.CellsRefused', WHERE WHAT IT READS IS OF BULK AT MOST 1048576: true; the input reads as it did. -/
def cellsRefusedUptoRow : OpenClaim := { program := "ytfodeeejolkkfaagreat", sum := "4b431e5c483ca2d32a6241e3975db69085d384c15e8c1318b55f139d9be1cc20", func := "scarp/scarplaw26.CellsRefused", spec := "cellsRefused", inPlace := ["math.Float64frombits", "math.Float64bits"], unfollowed := true, recurses := true, apart := false, narrowed := true }
def CellsRefusedUptoSaid : Prop := cellsRefusedUptoRow.holds Tryz.pinned (OpenSpec.upto cellsRefusedSpec)

/-- 'scarplaw26.CellsKeep', WHERE WHAT IT READS IS OF BULK AT MOST 1048576: true; the input reads as it did. -/
def cellsKeepUptoRow : OpenClaim := { program := "ytfodeeejolkkfaagreat", sum := "4b431e5c483ca2d32a6241e3975db69085d384c15e8c1318b55f139d9be1cc20", func := "scarp/scarplaw26.CellsKeep", spec := "cellsKeep", inPlace := ["math.Float64frombits", "math.Float64bits"], unfollowed := true, recurses := true, apart := false, narrowed := true }
def CellsKeepUptoSaid : Prop := cellsKeepUptoRow.holds Tryz.pinned (OpenSpec.upto cellsKeepSpec)

/-- 'scarplaw26.CellsMoves', WHERE WHAT IT READS IS OF BULK AT MOST 1048576: true; the input reads as it did. -/
def cellsMovesUptoRow : OpenClaim := { program := "ytfodeeejolkkfaagreat", sum := "4b431e5c483ca2d32a6241e3975db69085d384c15e8c1318b55f139d9be1cc20", func := "scarp/scarplaw26.CellsMoves", spec := "cellsMoves", inPlace := ["math.Float64frombits", "math.Float64bits"], unfollowed := true, recurses := true, apart := false, narrowed := true }
def CellsMovesUptoSaid : Prop := cellsMovesUptoRow.holds Tryz.pinned (OpenSpec.upto cellsMovesSpec)

/-- 'scarplaw27.QueryRefused', WHERE WHAT IT READS IS OF BULK AT MOST 1048576: true; the input reads as it did. -/
def queryRefusedUptoRow : OpenClaim := { program := "ytfodeeejolkkfaagreat", sum := "4b431e5c483ca2d32a6241e3975db69085d384c15e8c1318b55f139d9be1cc20", func := "scarp/scarplaw27.QueryRefused", spec := "queryRefused", inPlace := ["math.Float64frombits", "math.Float64bits"], unfollowed := true, recurses := true, apart := false, narrowed := true }
def QueryRefusedUptoSaid : Prop := queryRefusedUptoRow.holds Tryz.pinned (OpenSpec.upto queryRefusedSpec)

end Rows
end Go.Proofs.YtfodeeejolkkfaaGreat
