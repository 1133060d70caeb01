/-
  DERIVED. GIVEN WITH THE SEED: THE CARDS: each row of YtgagcbgbjkjghaaGreatDoorRows.lean that lists a variable, with what it lists TIED to the program's text (the seventh form; the later family's looks); each row that meets fmt, with fmt's text TOLD by the authors' own Lean function (tested against real Go, not proved from fmt's source: count such statements apart). THE CARD IS WHAT COUNTS. Prove the row's statement (the work); the ties are given (YtgagcbgbjkjghaaGreatDoorTie.lean); close each card by the builder's one call (the guide's Derived/Test/ToyasCard.lean, 'card_holds'). Laid BY PROGRAM, IN A SANDBOX (cutbox-door.mjs). By AI agents, Wed Nov 11 2026. No macro, syntax, notation, axiom, sorry.
-/
import Derived.Test.YtgagcbgbjkjghaaGreatDoorRows
import GoSem.ClaimSeven
namespace Go.Proofs.YtgagcbgbjkjghaaGreatDoor
namespace Rows

/-- THE TIED CARD OF 'scarplaw30.ShellLong'. -/
def shellLongCard : Claim7 := { stood := { row := shellLongRow, standIns := [], harness := (true, "f72945ffae7b9ed20806e77d20ed92feeccc643b881224d503589d1c6d36de74"), looks := true }, kinds := [], alts := [], laidByText := true, laidKinds := [.data, .data, .data, .data, .sentinel, .sentinel, .pinned], laidTests := true, laidLooks := .later }
def ShellLongCardSaid : Prop := Claim7.holds Tryz.pinned (.plain (OpenSpec.ofChange shellLongSpec)) shellLongCard

/-- THE TIED CARD OF 'scarplaw30.ShellNumbers'. -/
def shellNumbersCard : Claim7 := { stood := { row := shellNumbersRow, standIns := [], harness := (true, "f72945ffae7b9ed20806e77d20ed92feeccc643b881224d503589d1c6d36de74"), looks := true }, kinds := [], alts := [], laidByText := true, laidKinds := [.data, .data, .data, .data, .sentinel, .sentinel, .pinned], laidTests := true, laidLooks := .later }
def ShellNumbersCardSaid : Prop := Claim7.holds Tryz.pinned (.plain (OpenSpec.ofChange shellNumbersSpec)) shellNumbersCard

/-- THE TIED CARD OF 'scarplaw30.ShellLasts'. -/
def shellLastsCard : Claim7 := { stood := { row := shellLastsRow, standIns := [], harness := (true, "f72945ffae7b9ed20806e77d20ed92feeccc643b881224d503589d1c6d36de74"), looks := true }, kinds := [], alts := [], laidByText := true, laidKinds := [.data, .data, .data, .data, .sentinel, .sentinel, .pinned], laidTests := true, laidLooks := .later }
def ShellLastsCardSaid : Prop := Claim7.holds Tryz.pinned (.plain (OpenSpec.ofChange shellLastsSpec)) shellLastsCard

/-- THE TIED CARD OF 'scarplaw30.ShellClash'. -/
def shellClashCard : Claim7 := { stood := { row := shellClashRow, standIns := [], harness := (true, "f72945ffae7b9ed20806e77d20ed92feeccc643b881224d503589d1c6d36de74"), looks := true }, kinds := [], alts := [], laidByText := true, laidKinds := [.data, .data, .data, .data, .sentinel, .sentinel, .pinned], laidTests := true, laidLooks := .later }
def ShellClashCardSaid : Prop := Claim7.holds Tryz.pinned (.plain (OpenSpec.ofChange shellClashSpec)) shellClashCard

/-- THE TIED CARD OF 'scarplaw30.ShellSums'. -/
def shellSumsCard : Claim7 := { stood := { row := shellSumsRow, standIns := [], harness := (true, "f72945ffae7b9ed20806e77d20ed92feeccc643b881224d503589d1c6d36de74"), looks := true }, kinds := [], alts := [], laidByText := true, laidKinds := [.data, .data, .data, .data, .sentinel, .sentinel, .pinned], laidTests := true, laidLooks := .later }
def ShellSumsCardSaid : Prop := Claim7.holds Tryz.pinned (.plain (OpenSpec.ofChange shellSumsSpec)) shellSumsCard

/-- THE SECOND FORM's CARD OF 'scarplaw30.ShellLong'. -/
def shellLongUptoCard : Claim7 := { stood := { row := shellLongUptoRow, standIns := [], harness := (true, "f72945ffae7b9ed20806e77d20ed92feeccc643b881224d503589d1c6d36de74"), looks := true }, kinds := [], alts := [], laidByText := true, laidKinds := [.data, .data, .data, .data, .sentinel, .sentinel, .pinned], laidTests := true, laidLooks := .later }
def ShellLongUptoCardSaid : Prop := Claim7.holds Tryz.pinned (.plain (OpenSpec.upto shellLongSpec)) shellLongUptoCard

/-- THE SECOND FORM's CARD OF 'scarplaw30.ShellNumbers'. -/
def shellNumbersUptoCard : Claim7 := { stood := { row := shellNumbersUptoRow, standIns := [], harness := (true, "f72945ffae7b9ed20806e77d20ed92feeccc643b881224d503589d1c6d36de74"), looks := true }, kinds := [], alts := [], laidByText := true, laidKinds := [.data, .data, .data, .data, .sentinel, .sentinel, .pinned], laidTests := true, laidLooks := .later }
def ShellNumbersUptoCardSaid : Prop := Claim7.holds Tryz.pinned (.plain (OpenSpec.upto shellNumbersSpec)) shellNumbersUptoCard

/-- THE SECOND FORM's CARD OF 'scarplaw30.ShellLasts'. -/
def shellLastsUptoCard : Claim7 := { stood := { row := shellLastsUptoRow, standIns := [], harness := (true, "f72945ffae7b9ed20806e77d20ed92feeccc643b881224d503589d1c6d36de74"), looks := true }, kinds := [], alts := [], laidByText := true, laidKinds := [.data, .data, .data, .data, .sentinel, .sentinel, .pinned], laidTests := true, laidLooks := .later }
def ShellLastsUptoCardSaid : Prop := Claim7.holds Tryz.pinned (.plain (OpenSpec.upto shellLastsSpec)) shellLastsUptoCard

/-- THE SECOND FORM's CARD OF 'scarplaw30.ShellClash'. -/
def shellClashUptoCard : Claim7 := { stood := { row := shellClashUptoRow, standIns := [], harness := (true, "f72945ffae7b9ed20806e77d20ed92feeccc643b881224d503589d1c6d36de74"), looks := true }, kinds := [], alts := [], laidByText := true, laidKinds := [.data, .data, .data, .data, .sentinel, .sentinel, .pinned], laidTests := true, laidLooks := .later }
def ShellClashUptoCardSaid : Prop := Claim7.holds Tryz.pinned (.plain (OpenSpec.upto shellClashSpec)) shellClashUptoCard

/-- THE SECOND FORM's CARD OF 'scarplaw30.ShellSums'. -/
def shellSumsUptoCard : Claim7 := { stood := { row := shellSumsUptoRow, standIns := [], harness := (true, "f72945ffae7b9ed20806e77d20ed92feeccc643b881224d503589d1c6d36de74"), looks := true }, kinds := [], alts := [], laidByText := true, laidKinds := [.data, .data, .data, .data, .sentinel, .sentinel, .pinned], laidTests := true, laidLooks := .later }
def ShellSumsUptoCardSaid : Prop := Claim7.holds Tryz.pinned (.plain (OpenSpec.upto shellSumsSpec)) shellSumsUptoCard
end Rows
end Go.Proofs.YtgagcbgbjkjghaaGreatDoor
