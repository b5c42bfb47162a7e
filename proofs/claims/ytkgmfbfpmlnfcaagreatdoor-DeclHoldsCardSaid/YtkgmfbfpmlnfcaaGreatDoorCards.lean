/-
  DERIVED. GIVEN WITH THE SEED: THE CARDS: each row of YtkgmfbfpmlnfcaaGreatDoorRows.lean that lists a variable, with what it lists TIED to the program's text (the seventh form; the later family's looks); each row that meets fmt, with fmt's text TOLD by the authors' own Lean function (tested against real Go, not proved from fmt's source: count such statements apart). THE CARD IS WHAT COUNTS. Prove the row's statement (the work); the ties are given (YtkgmfbfpmlnfcaaGreatDoorTie.lean); close each card by the builder's one call (the guide's Derived/Test/ToyasCard.lean, 'card_holds'). Laid BY PROGRAM, IN A SANDBOX (cutbox-door.mjs). By AI agents, Wed Nov 11 2026. No macro, syntax, notation, axiom, sorry.
-/
import Derived.Test.YtkgmfbfpmlnfcaaGreatDoorRows
import GoSem.ClaimSeven
namespace Go.Proofs.YtkgmfbfpmlnfcaaGreatDoor
namespace Rows

/-- THE TIED CARD OF 'geodelaw12.DeclParts'. -/
def declPartsCard : Claim7 := { stood := { row := declPartsRow, standIns := [], harness := (true, "1e8f117a06b4ef8edff02756b2d1245ea88878e148a1e1322160529dcaebb015"), looks := false }, kinds := [], alts := [], laidByText := true, laidKinds := [.data, .data, .data, .data, .pinned], laidTests := true, laidLooks := .later }
def DeclPartsCardSaid : Prop := Claim7.holds Tryz.pinned (.plain (OpenSpec.ofChange declPartsSpec)) declPartsCard

/-- THE TIED CARD OF 'geodelaw12.DeclHolds'. -/
def declHoldsCard : Claim7 := { stood := { row := declHoldsRow, standIns := [], harness := (true, "1e8f117a06b4ef8edff02756b2d1245ea88878e148a1e1322160529dcaebb015"), looks := false }, kinds := [], alts := [], laidByText := true, laidKinds := [.data, .data, .data, .data, .pinned], laidTests := true, laidLooks := .later }
def DeclHoldsCardSaid : Prop := Claim7.holds Tryz.pinned (.plain (OpenSpec.ofChange declHoldsSpec)) declHoldsCard

/-- THE SECOND FORM's CARD OF 'geodelaw12.DeclParts'. -/
def declPartsUptoCard : Claim7 := { stood := { row := declPartsUptoRow, standIns := [], harness := (true, "1e8f117a06b4ef8edff02756b2d1245ea88878e148a1e1322160529dcaebb015"), looks := false }, kinds := [], alts := [], laidByText := true, laidKinds := [.data, .data, .data, .data, .pinned], laidTests := true, laidLooks := .later }
def DeclPartsUptoCardSaid : Prop := Claim7.holds Tryz.pinned (.plain (OpenSpec.upto declPartsSpec)) declPartsUptoCard

/-- THE SECOND FORM's CARD OF 'geodelaw12.DeclHolds'. -/
def declHoldsUptoCard : Claim7 := { stood := { row := declHoldsUptoRow, standIns := [], harness := (true, "1e8f117a06b4ef8edff02756b2d1245ea88878e148a1e1322160529dcaebb015"), looks := false }, kinds := [], alts := [], laidByText := true, laidKinds := [.data, .data, .data, .data, .pinned], laidTests := true, laidLooks := .later }
def DeclHoldsUptoCardSaid : Prop := Claim7.holds Tryz.pinned (.plain (OpenSpec.upto declHoldsSpec)) declHoldsUptoCard
end Rows
end Go.Proofs.YtkgmfbfpmlnfcaaGreatDoor
