/-
  DERIVED. GIVEN WITH THE SEED: THE CARDS: each row of YtfdkafmomkkapaaGreatDoorRows.lean that lists a variable, with what it lists TIED to the program's text (the seventh form; the later family's looks); each row that meets fmt, with fmt's text TOLD by the authors' own Lean function (tested against real Go, not proved from fmt's source: count such statements apart). THE CARD IS WHAT COUNTS. Prove the row's statement (the work); the ties are given (YtfdkafmomkkapaaGreatDoorTie.lean); close each card by the builder's one call (the guide's Derived/Test/ToyasCard.lean, 'card_holds'). Laid BY PROGRAM, IN A SANDBOX (cutbox-door.mjs). By AI agents, Wed Nov 11 2026. No macro, syntax, notation, axiom, sorry.
-/
import Derived.Test.YtfdkafmomkkapaaGreatDoorRows
import GoSem.ClaimSeven
namespace Go.Proofs.YtfdkafmomkkapaaGreatDoor
namespace Rows

/-- THE TIED CARD OF 'scarplaw3.FtextRounds'. -/
def ftextRoundsCard : Claim7 := { stood := { row := ftextRoundsRow, standIns := [], harness := (true, "40951b6cbfe0a35ae000bc20f20a142ff2738184f624ca89c323b94a6da5e9ad"), looks := true }, kinds := [], alts := [], laidByText := true, laidKinds := [.data, .data, .data, .data, .sentinel, .sentinel, .pinned], laidTests := true, laidLooks := .later }
def FtextRoundsCardSaid : Prop := Claim7.holds Tryz.pinned (.plain (OpenSpec.ofChange ftextRoundsSpec)) ftextRoundsCard

/-- THE SECOND FORM's CARD OF 'scarplaw3.FtextRounds'. -/
def ftextRoundsUptoCard : Claim7 := { stood := { row := ftextRoundsUptoRow, standIns := [], harness := (true, "40951b6cbfe0a35ae000bc20f20a142ff2738184f624ca89c323b94a6da5e9ad"), looks := true }, kinds := [], alts := [], laidByText := true, laidKinds := [.data, .data, .data, .data, .sentinel, .sentinel, .pinned], laidTests := true, laidLooks := .later }
def FtextRoundsUptoCardSaid : Prop := Claim7.holds Tryz.pinned (.plain (OpenSpec.upto ftextRoundsSpec)) ftextRoundsUptoCard
end Rows
end Go.Proofs.YtfdkafmomkkapaaGreatDoor
