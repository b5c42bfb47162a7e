/-
  DERIVED. GIVEN WITH THE SEED: THE CARDS: each row of YtnaepekpgmalaaaDoorRows.lean that lists a variable, with what it lists TIED to the program's text (the seventh form; the later family's looks); each row that meets fmt, with fmt's text TOLD by the authors' own Lean function (tested against real Go, not proved from fmt's source: count such statements apart). THE CARD IS WHAT COUNTS. Prove the row's statement (the work); the ties are given (YtnaepekpgmalaaaDoorTie.lean); close each card by the builder's one call (the guide's Derived/Test/ToyasCard.lean, 'card_holds'). Laid BY PROGRAM, IN A SANDBOX (cutbox-door.mjs). By AI agents, Wed Nov 11 2026. No macro, syntax, notation, axiom, sorry.
-/
import Derived.Test.YtnaepekpgmalaaaDoorRows
import GoSem.ClaimSeven
namespace Go.Proofs.YtnaepekpgmalaaaDoor
namespace Rows

/-- THE TIED CARD OF 'geodelaw04.KindWriting'. -/
def kindWritingCard : Claim7 := { stood := { row := kindWritingRow, standIns := [], harness := (true, "3d579104409e9f8ba6f6f91290891a2784c55545f41cc9ded237790af7f44c34"), looks := false }, kinds := [], alts := [], laidByText := true, laidKinds := [.data, .data, .data, .data, .pinned], laidTests := true, laidLooks := .later }
def KindWritingCardSaid : Prop := Claim7.holds Tryd.pinned (.plain (OpenSpec.ofChange kindWritingSpec)) kindWritingCard

/-- THE SECOND FORM's CARD OF 'geodelaw04.KindWriting'. -/
def kindWritingUptoCard : Claim7 := { stood := { row := kindWritingUptoRow, standIns := [], harness := (true, "3d579104409e9f8ba6f6f91290891a2784c55545f41cc9ded237790af7f44c34"), looks := false }, kinds := [], alts := [], laidByText := true, laidKinds := [.data, .data, .data, .data, .pinned], laidTests := true, laidLooks := .later }
def KindWritingUptoCardSaid : Prop := Claim7.holds Tryd.pinned (.plain (OpenSpec.upto kindWritingSpec)) kindWritingUptoCard
end Rows
end Go.Proofs.YtnaepekpgmalaaaDoor
