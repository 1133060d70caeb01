/-
  DERIVED. GIVEN WITH THE SEED: THE CARDS: each row of YtfdkafmomkkapaaDoorRows.lean that lists a variable, with what it lists TIED to the program's text (the seventh form; the later family's looks); each row that meets fmt, with fmt's text TOLD by the authors' own Lean function (tested against real Go, not proved from fmt's source: count such statements apart). THE CARD IS WHAT COUNTS. Prove the row's statement (the work); the ties are given (YtfdkafmomkkapaaDoorTie.lean); close each card by the builder's one call (the guide's Derived/Test/ToyasCard.lean, 'card_holds'). Laid BY PROGRAM, IN A SANDBOX (cutbox-door.mjs). By AI agents, Wed Nov 11 2026. No macro, syntax, notation, axiom, sorry.
-/
import Derived.Test.YtfdkafmomkkapaaDoorRows
import GoSem.ClaimSeven
namespace Go.Proofs.YtfdkafmomkkapaaDoor
namespace Rows

/-- THE TIED CARD OF 'scarplaw29.ScriptTexts'. -/
def scriptTextsCard : Claim7 := { stood := { row := scriptTextsRow, standIns := [], harness := (true, "9ae01949ad9bffb79d2d353fd053f065381b34a81ef7e4864911ddbfeeecb5b0"), looks := true }, kinds := [], alts := [], laidByText := true, laidKinds := [.data, .data, .data, .data, .sentinel, .sentinel, .pinned], laidTests := true, laidLooks := .later }
def ScriptTextsCardSaid : Prop := Claim7.holds Tryd.pinned (.plain (OpenSpec.ofChange scriptTextsSpec)) scriptTextsCard

/-- THE TIED CARD OF 'scarplaw29.ScriptBytes'. -/
def scriptBytesCard : Claim7 := { stood := { row := scriptBytesRow, standIns := [], harness := (true, "9ae01949ad9bffb79d2d353fd053f065381b34a81ef7e4864911ddbfeeecb5b0"), looks := true }, kinds := [], alts := [], laidByText := true, laidKinds := [.data, .data, .data, .data, .sentinel, .sentinel, .pinned], laidTests := true, laidLooks := .later }
def ScriptBytesCardSaid : Prop := Claim7.holds Tryd.pinned (.plain (OpenSpec.ofChange scriptBytesSpec)) scriptBytesCard

/-- THE TIED CARD OF 'scarplaw29.ScriptBack'. -/
def scriptBackCard : Claim7 := { stood := { row := scriptBackRow, standIns := [], harness := (true, "9ae01949ad9bffb79d2d353fd053f065381b34a81ef7e4864911ddbfeeecb5b0"), looks := true }, kinds := [], alts := [], laidByText := true, laidKinds := [.data, .data, .data, .data, .sentinel, .sentinel, .pinned], laidTests := true, laidLooks := .later }
def ScriptBackCardSaid : Prop := Claim7.holds Tryd.pinned (.plain (OpenSpec.ofChange scriptBackSpec)) scriptBackCard

/-- THE TIED CARD OF 'scarplaw29.ScriptForms'. -/
def scriptFormsCard : Claim7 := { stood := { row := scriptFormsRow, standIns := [], harness := (true, "9ae01949ad9bffb79d2d353fd053f065381b34a81ef7e4864911ddbfeeecb5b0"), looks := true }, kinds := [], alts := [], laidByText := true, laidKinds := [.data, .data, .data, .data, .sentinel, .sentinel, .pinned], laidTests := true, laidLooks := .later }
def ScriptFormsCardSaid : Prop := Claim7.holds Tryd.pinned (.plain (OpenSpec.ofChange scriptFormsSpec)) scriptFormsCard

/-- THE TIED CARD OF 'scarplaw29.ScriptApart'. -/
def scriptApartCard : Claim7 := { stood := { row := scriptApartRow, standIns := [], harness := (true, "9ae01949ad9bffb79d2d353fd053f065381b34a81ef7e4864911ddbfeeecb5b0"), looks := true }, kinds := [], alts := [], laidByText := true, laidKinds := [.data, .data, .data, .data, .sentinel, .sentinel, .pinned], laidTests := true, laidLooks := .later }
def ScriptApartCardSaid : Prop := Claim7.holds Tryd.pinned (.plain (OpenSpec.ofChange scriptApartSpec)) scriptApartCard

/-- THE TIED CARD OF 'scarplaw29.ScriptAnswers'. -/
def scriptAnswersCard : Claim7 := { stood := { row := scriptAnswersRow, standIns := [], harness := (true, "9ae01949ad9bffb79d2d353fd053f065381b34a81ef7e4864911ddbfeeecb5b0"), looks := true }, kinds := [], alts := [], laidByText := true, laidKinds := [.data, .data, .data, .data, .sentinel, .sentinel, .pinned], laidTests := true, laidLooks := .later }
def ScriptAnswersCardSaid : Prop := Claim7.holds Tryd.pinned (.plain (OpenSpec.ofChange scriptAnswersSpec)) scriptAnswersCard

/-- THE TIED CARD OF 'scarplaw3.FtextAsks'. -/
def ftextAsksCard : Claim7 := { stood := { row := ftextAsksRow, standIns := [], harness := (true, "9ae01949ad9bffb79d2d353fd053f065381b34a81ef7e4864911ddbfeeecb5b0"), looks := true }, kinds := [], alts := [], laidByText := true, laidKinds := [.data, .data, .data, .data, .sentinel, .sentinel, .pinned], laidTests := true, laidLooks := .later }
def FtextAsksCardSaid : Prop := Claim7.holds Tryd.pinned (.plain (OpenSpec.ofChange ftextAsksSpec)) ftextAsksCard

/-- THE TIED CARD OF 'scarplaw3.FtextBack'. -/
def ftextBackCard : Claim7 := { stood := { row := ftextBackRow, standIns := [], harness := (true, "9ae01949ad9bffb79d2d353fd053f065381b34a81ef7e4864911ddbfeeecb5b0"), looks := true }, kinds := [], alts := [], laidByText := true, laidKinds := [.data, .data, .data, .data, .sentinel, .sentinel, .pinned], laidTests := true, laidLooks := .later }
def FtextBackCardSaid : Prop := Claim7.holds Tryd.pinned (.plain (OpenSpec.ofChange ftextBackSpec)) ftextBackCard

/-- THE TIED CARD OF 'scarplaw3.FtextForms'. -/
def ftextFormsCard : Claim7 := { stood := { row := ftextFormsRow, standIns := [], harness := (true, "9ae01949ad9bffb79d2d353fd053f065381b34a81ef7e4864911ddbfeeecb5b0"), looks := true }, kinds := [], alts := [], laidByText := true, laidKinds := [.data, .data, .data, .data, .sentinel, .sentinel, .pinned], laidTests := true, laidLooks := .later }
def FtextFormsCardSaid : Prop := Claim7.holds Tryd.pinned (.plain (OpenSpec.ofChange ftextFormsSpec)) ftextFormsCard

/-- THE TIED CARD OF 'scarplaw3.FtextSigns'. -/
def ftextSignsCard : Claim7 := { stood := { row := ftextSignsRow, standIns := [], harness := (true, "9ae01949ad9bffb79d2d353fd053f065381b34a81ef7e4864911ddbfeeecb5b0"), looks := true }, kinds := [], alts := [], laidByText := true, laidKinds := [.data, .data, .data, .data, .sentinel, .sentinel, .pinned], laidTests := true, laidLooks := .later }
def FtextSignsCardSaid : Prop := Claim7.holds Tryd.pinned (.plain (OpenSpec.ofChange ftextSignsSpec)) ftextSignsCard

/-- THE TIED CARD OF 'scarplaw3.FtextWhole'. -/
def ftextWholeCard : Claim7 := { stood := { row := ftextWholeRow, standIns := [], harness := (true, "9ae01949ad9bffb79d2d353fd053f065381b34a81ef7e4864911ddbfeeecb5b0"), looks := true }, kinds := [], alts := [], laidByText := true, laidKinds := [.data, .data, .data, .data, .sentinel, .sentinel, .pinned], laidTests := true, laidLooks := .later }
def FtextWholeCardSaid : Prop := Claim7.holds Tryd.pinned (.plain (OpenSpec.ofChange ftextWholeSpec)) ftextWholeCard

/-- THE SECOND FORM's CARD OF 'scarplaw29.ScriptTexts'. -/
def scriptTextsUptoCard : Claim7 := { stood := { row := scriptTextsUptoRow, standIns := [], harness := (true, "9ae01949ad9bffb79d2d353fd053f065381b34a81ef7e4864911ddbfeeecb5b0"), looks := true }, kinds := [], alts := [], laidByText := true, laidKinds := [.data, .data, .data, .data, .sentinel, .sentinel, .pinned], laidTests := true, laidLooks := .later }
def ScriptTextsUptoCardSaid : Prop := Claim7.holds Tryd.pinned (.plain (OpenSpec.upto scriptTextsSpec)) scriptTextsUptoCard

/-- THE SECOND FORM's CARD OF 'scarplaw29.ScriptBytes'. -/
def scriptBytesUptoCard : Claim7 := { stood := { row := scriptBytesUptoRow, standIns := [], harness := (true, "9ae01949ad9bffb79d2d353fd053f065381b34a81ef7e4864911ddbfeeecb5b0"), looks := true }, kinds := [], alts := [], laidByText := true, laidKinds := [.data, .data, .data, .data, .sentinel, .sentinel, .pinned], laidTests := true, laidLooks := .later }
def ScriptBytesUptoCardSaid : Prop := Claim7.holds Tryd.pinned (.plain (OpenSpec.upto scriptBytesSpec)) scriptBytesUptoCard

/-- THE SECOND FORM's CARD OF 'scarplaw29.ScriptBack'. -/
def scriptBackUptoCard : Claim7 := { stood := { row := scriptBackUptoRow, standIns := [], harness := (true, "9ae01949ad9bffb79d2d353fd053f065381b34a81ef7e4864911ddbfeeecb5b0"), looks := true }, kinds := [], alts := [], laidByText := true, laidKinds := [.data, .data, .data, .data, .sentinel, .sentinel, .pinned], laidTests := true, laidLooks := .later }
def ScriptBackUptoCardSaid : Prop := Claim7.holds Tryd.pinned (.plain (OpenSpec.upto scriptBackSpec)) scriptBackUptoCard

/-- THE SECOND FORM's CARD OF 'scarplaw29.ScriptForms'. -/
def scriptFormsUptoCard : Claim7 := { stood := { row := scriptFormsUptoRow, standIns := [], harness := (true, "9ae01949ad9bffb79d2d353fd053f065381b34a81ef7e4864911ddbfeeecb5b0"), looks := true }, kinds := [], alts := [], laidByText := true, laidKinds := [.data, .data, .data, .data, .sentinel, .sentinel, .pinned], laidTests := true, laidLooks := .later }
def ScriptFormsUptoCardSaid : Prop := Claim7.holds Tryd.pinned (.plain (OpenSpec.upto scriptFormsSpec)) scriptFormsUptoCard

/-- THE SECOND FORM's CARD OF 'scarplaw29.ScriptApart'. -/
def scriptApartUptoCard : Claim7 := { stood := { row := scriptApartUptoRow, standIns := [], harness := (true, "9ae01949ad9bffb79d2d353fd053f065381b34a81ef7e4864911ddbfeeecb5b0"), looks := true }, kinds := [], alts := [], laidByText := true, laidKinds := [.data, .data, .data, .data, .sentinel, .sentinel, .pinned], laidTests := true, laidLooks := .later }
def ScriptApartUptoCardSaid : Prop := Claim7.holds Tryd.pinned (.plain (OpenSpec.upto scriptApartSpec)) scriptApartUptoCard

/-- THE SECOND FORM's CARD OF 'scarplaw29.ScriptAnswers'. -/
def scriptAnswersUptoCard : Claim7 := { stood := { row := scriptAnswersUptoRow, standIns := [], harness := (true, "9ae01949ad9bffb79d2d353fd053f065381b34a81ef7e4864911ddbfeeecb5b0"), looks := true }, kinds := [], alts := [], laidByText := true, laidKinds := [.data, .data, .data, .data, .sentinel, .sentinel, .pinned], laidTests := true, laidLooks := .later }
def ScriptAnswersUptoCardSaid : Prop := Claim7.holds Tryd.pinned (.plain (OpenSpec.upto scriptAnswersSpec)) scriptAnswersUptoCard

/-- THE SECOND FORM's CARD OF 'scarplaw3.FtextAsks'. -/
def ftextAsksUptoCard : Claim7 := { stood := { row := ftextAsksUptoRow, standIns := [], harness := (true, "9ae01949ad9bffb79d2d353fd053f065381b34a81ef7e4864911ddbfeeecb5b0"), looks := true }, kinds := [], alts := [], laidByText := true, laidKinds := [.data, .data, .data, .data, .sentinel, .sentinel, .pinned], laidTests := true, laidLooks := .later }
def FtextAsksUptoCardSaid : Prop := Claim7.holds Tryd.pinned (.plain (OpenSpec.upto ftextAsksSpec)) ftextAsksUptoCard

/-- THE SECOND FORM's CARD OF 'scarplaw3.FtextBack'. -/
def ftextBackUptoCard : Claim7 := { stood := { row := ftextBackUptoRow, standIns := [], harness := (true, "9ae01949ad9bffb79d2d353fd053f065381b34a81ef7e4864911ddbfeeecb5b0"), looks := true }, kinds := [], alts := [], laidByText := true, laidKinds := [.data, .data, .data, .data, .sentinel, .sentinel, .pinned], laidTests := true, laidLooks := .later }
def FtextBackUptoCardSaid : Prop := Claim7.holds Tryd.pinned (.plain (OpenSpec.upto ftextBackSpec)) ftextBackUptoCard

/-- THE SECOND FORM's CARD OF 'scarplaw3.FtextForms'. -/
def ftextFormsUptoCard : Claim7 := { stood := { row := ftextFormsUptoRow, standIns := [], harness := (true, "9ae01949ad9bffb79d2d353fd053f065381b34a81ef7e4864911ddbfeeecb5b0"), looks := true }, kinds := [], alts := [], laidByText := true, laidKinds := [.data, .data, .data, .data, .sentinel, .sentinel, .pinned], laidTests := true, laidLooks := .later }
def FtextFormsUptoCardSaid : Prop := Claim7.holds Tryd.pinned (.plain (OpenSpec.upto ftextFormsSpec)) ftextFormsUptoCard

/-- THE SECOND FORM's CARD OF 'scarplaw3.FtextSigns'. -/
def ftextSignsUptoCard : Claim7 := { stood := { row := ftextSignsUptoRow, standIns := [], harness := (true, "9ae01949ad9bffb79d2d353fd053f065381b34a81ef7e4864911ddbfeeecb5b0"), looks := true }, kinds := [], alts := [], laidByText := true, laidKinds := [.data, .data, .data, .data, .sentinel, .sentinel, .pinned], laidTests := true, laidLooks := .later }
def FtextSignsUptoCardSaid : Prop := Claim7.holds Tryd.pinned (.plain (OpenSpec.upto ftextSignsSpec)) ftextSignsUptoCard

/-- THE SECOND FORM's CARD OF 'scarplaw3.FtextWhole'. -/
def ftextWholeUptoCard : Claim7 := { stood := { row := ftextWholeUptoRow, standIns := [], harness := (true, "9ae01949ad9bffb79d2d353fd053f065381b34a81ef7e4864911ddbfeeecb5b0"), looks := true }, kinds := [], alts := [], laidByText := true, laidKinds := [.data, .data, .data, .data, .sentinel, .sentinel, .pinned], laidTests := true, laidLooks := .later }
def FtextWholeUptoCardSaid : Prop := Claim7.holds Tryd.pinned (.plain (OpenSpec.upto ftextWholeSpec)) ftextWholeUptoCard
end Rows
end Go.Proofs.YtfdkafmomkkapaaDoor
