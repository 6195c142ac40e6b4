/-
  DERIVED. GIVEN WITH THE SEED: THE CARDS: each row of YtmalhikcdideoaaGreatDoorRows.lean that lists a variable, with what it lists TIED to the program's text (the seventh form; the later family's looks); each row that meets fmt, with fmt's text TOLD by the authors' own Lean function (tested against real Go, not proved from fmt's source: count such statements apart). THE CARD IS WHAT COUNTS. Prove the row's statement (the work); the ties are given (YtmalhikcdideoaaGreatDoorTie.lean); close each card by the builder's one call (the guide's Derived/Test/ToyasCard.lean, 'card_holds'). Laid BY PROGRAM, IN A SANDBOX (cutbox-door.mjs). By AI agents, Wed Nov 11 2026. No macro, syntax, notation, axiom, sorry.
-/
import Derived.Test.YtmalhikcdideoaaGreatDoorRows
import GoSem.ClaimSeven
namespace Go.Proofs.YtmalhikcdideoaaGreatDoor
namespace Rows

/-- THE TIED CARD OF 'mootlaw2.ScopeRenames'. -/
def scopeRenamesCard : Claim7 := { stood := { row := scopeRenamesRow, standIns := [], harness := (true, "d6c8eaec7ddc425cf08ce96f8f973146ad9b99b90cac7b715c9874bddbd16e52"), looks := false }, kinds := [], alts := [], laidByText := true, laidKinds := [.data, .data, .data, .data, .listed, .data, .pinned], laidTests := true, laidLooks := .later }
def ScopeRenamesCardSaid : Prop := Claim7.holds Tryz.pinned (.plain (OpenSpec.ofChange scopeRenamesSpec)) scopeRenamesCard

/-- THE TIED CARD OF 'mootlaw2.PrintActs'. -/
def printActsCard : Claim7 := { stood := { row := printActsRow, standIns := [], harness := (true, "d6c8eaec7ddc425cf08ce96f8f973146ad9b99b90cac7b715c9874bddbd16e52"), looks := false }, kinds := [], alts := [], laidByText := true, laidKinds := [.data, .data, .data, .data, .listed, .data, .pinned], laidTests := true, laidLooks := .later }
def PrintActsCardSaid : Prop := Claim7.holds Tryz.pinned (.plain (OpenSpec.ofChange printActsSpec)) printActsCard

/-- THE TIED CARD OF 'mootlaw2.ScopeFinds'. -/
def scopeFindsCard : Claim7 := { stood := { row := scopeFindsRow, standIns := [], harness := (true, "d6c8eaec7ddc425cf08ce96f8f973146ad9b99b90cac7b715c9874bddbd16e52"), looks := false }, kinds := [], alts := [], laidByText := true, laidKinds := [.data, .data, .data, .data, .listed, .data, .pinned], laidTests := true, laidLooks := .later }
def ScopeFindsCardSaid : Prop := Claim7.holds Tryz.pinned (.plain (OpenSpec.ofChange scopeFindsSpec)) scopeFindsCard

/-- THE TIED CARD OF 'mootlaw2.PrintExprs'. -/
def printExprsCard : Claim7 := { stood := { row := printExprsRow, standIns := [], harness := (true, "d6c8eaec7ddc425cf08ce96f8f973146ad9b99b90cac7b715c9874bddbd16e52"), looks := false }, kinds := [], alts := [], laidByText := true, laidKinds := [.data, .data, .data, .data, .listed, .data, .pinned], laidTests := true, laidLooks := .later }
def PrintExprsCardSaid : Prop := Claim7.holds Tryz.pinned (.plain (OpenSpec.ofChange printExprsSpec)) printExprsCard

/-- THE TIED CARD OF 'mootlaw2.BodyChecks'. -/
def bodyChecksCard : Claim7 := { stood := { row := bodyChecksRow, standIns := [], harness := (true, "d6c8eaec7ddc425cf08ce96f8f973146ad9b99b90cac7b715c9874bddbd16e52"), looks := false }, kinds := [], alts := [], laidByText := true, laidKinds := [.data, .listed, .data, .pinned], laidTests := true, laidLooks := .later }
def BodyChecksCardSaid : Prop := Claim7.holds Tryz.pinned (.plain (OpenSpec.ofChange bodyChecksSpec)) bodyChecksCard

/-- THE SECOND FORM's CARD OF 'mootlaw2.ScopeRenames'. -/
def scopeRenamesUptoCard : Claim7 := { stood := { row := scopeRenamesUptoRow, standIns := [], harness := (true, "d6c8eaec7ddc425cf08ce96f8f973146ad9b99b90cac7b715c9874bddbd16e52"), looks := false }, kinds := [], alts := [], laidByText := true, laidKinds := [.data, .data, .data, .data, .listed, .data, .pinned], laidTests := true, laidLooks := .later }
def ScopeRenamesUptoCardSaid : Prop := Claim7.holds Tryz.pinned (.plain (OpenSpec.upto scopeRenamesSpec)) scopeRenamesUptoCard

/-- THE SECOND FORM's CARD OF 'mootlaw2.PrintActs'. -/
def printActsUptoCard : Claim7 := { stood := { row := printActsUptoRow, standIns := [], harness := (true, "d6c8eaec7ddc425cf08ce96f8f973146ad9b99b90cac7b715c9874bddbd16e52"), looks := false }, kinds := [], alts := [], laidByText := true, laidKinds := [.data, .data, .data, .data, .listed, .data, .pinned], laidTests := true, laidLooks := .later }
def PrintActsUptoCardSaid : Prop := Claim7.holds Tryz.pinned (.plain (OpenSpec.upto printActsSpec)) printActsUptoCard

/-- THE SECOND FORM's CARD OF 'mootlaw2.ScopeFinds'. -/
def scopeFindsUptoCard : Claim7 := { stood := { row := scopeFindsUptoRow, standIns := [], harness := (true, "d6c8eaec7ddc425cf08ce96f8f973146ad9b99b90cac7b715c9874bddbd16e52"), looks := false }, kinds := [], alts := [], laidByText := true, laidKinds := [.data, .data, .data, .data, .listed, .data, .pinned], laidTests := true, laidLooks := .later }
def ScopeFindsUptoCardSaid : Prop := Claim7.holds Tryz.pinned (.plain (OpenSpec.upto scopeFindsSpec)) scopeFindsUptoCard

/-- THE SECOND FORM's CARD OF 'mootlaw2.PrintExprs'. -/
def printExprsUptoCard : Claim7 := { stood := { row := printExprsUptoRow, standIns := [], harness := (true, "d6c8eaec7ddc425cf08ce96f8f973146ad9b99b90cac7b715c9874bddbd16e52"), looks := false }, kinds := [], alts := [], laidByText := true, laidKinds := [.data, .data, .data, .data, .listed, .data, .pinned], laidTests := true, laidLooks := .later }
def PrintExprsUptoCardSaid : Prop := Claim7.holds Tryz.pinned (.plain (OpenSpec.upto printExprsSpec)) printExprsUptoCard

/-- THE SECOND FORM's CARD OF 'mootlaw2.BodyChecks'. -/
def bodyChecksUptoCard : Claim7 := { stood := { row := bodyChecksUptoRow, standIns := [], harness := (true, "d6c8eaec7ddc425cf08ce96f8f973146ad9b99b90cac7b715c9874bddbd16e52"), looks := false }, kinds := [], alts := [], laidByText := true, laidKinds := [.data, .listed, .data, .pinned], laidTests := true, laidLooks := .later }
def BodyChecksUptoCardSaid : Prop := Claim7.holds Tryz.pinned (.plain (OpenSpec.upto bodyChecksSpec)) bodyChecksUptoCard
end Rows
end Go.Proofs.YtmalhikcdideoaaGreatDoor
