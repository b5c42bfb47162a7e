/-
  DERIVED. GIVEN WITH THE SEED: THE CARDS: each row of YtfpfpopfnbcblaaDoorRows.lean that lists a variable, with what it lists TIED to the program's text (the seventh form; the later family's looks); each row that meets fmt, with fmt's text TOLD by the authors' own Lean function (tested against real Go, not proved from fmt's source: count such statements apart). THE CARD IS WHAT COUNTS. Prove the row's statement (the work); the ties are given (YtfpfpopfnbcblaaDoorTie.lean); close each card by the builder's one call (the guide's Derived/Test/ToyasCard.lean, 'card_holds'). Laid BY PROGRAM, IN A SANDBOX (cutbox-door.mjs). By AI agents, Wed Nov 11 2026. No macro, syntax, notation, axiom, sorry.
-/
import Derived.Test.YtfpfpopfnbcblaaDoorRows
import GoSem.ClaimSeven
namespace Go.Proofs.YtfpfpopfnbcblaaDoor
namespace Rows

/-- THE TIED CARD OF 'geodelaw23.MarkMarks'. -/
def markMarksCard : Claim7 := { stood := { row := markMarksRow, standIns := [], harness := (true, "379527f179148a84ac912bca7f305710aa02887b3946d22c402b2b3d85a43567"), looks := false }, kinds := [], alts := [], laidByText := true, laidKinds := [.data, .data], laidTests := true, laidLooks := .later }
def MarkMarksCardSaid : Prop := Claim7.holds Tryd.pinned (.plain (OpenSpec.ofChange markMarksSpec)) markMarksCard

/-- THE TIED CARD OF 'geodelaw23.MarkMore'. -/
def markMoreCard : Claim7 := { stood := { row := markMoreRow, standIns := [], harness := (true, "379527f179148a84ac912bca7f305710aa02887b3946d22c402b2b3d85a43567"), looks := false }, kinds := [], alts := [], laidByText := true, laidKinds := [.data, .data], laidTests := true, laidLooks := .later }
def MarkMoreCardSaid : Prop := Claim7.holds Tryd.pinned (.plain (OpenSpec.ofChange markMoreSpec)) markMoreCard

/-- THE TIED CARD OF 'geodelaw23.MarkOrder'. -/
def markOrderCard : Claim7 := { stood := { row := markOrderRow, standIns := [], harness := (true, "379527f179148a84ac912bca7f305710aa02887b3946d22c402b2b3d85a43567"), looks := false }, kinds := [], alts := [], laidByText := true, laidKinds := [.data, .data], laidTests := true, laidLooks := .later }
def MarkOrderCardSaid : Prop := Claim7.holds Tryd.pinned (.plain (OpenSpec.ofChange markOrderSpec)) markOrderCard

/-- THE SECOND FORM's CARD OF 'geodelaw23.MarkMarks'. -/
def markMarksUptoCard : Claim7 := { stood := { row := markMarksUptoRow, standIns := [], harness := (true, "379527f179148a84ac912bca7f305710aa02887b3946d22c402b2b3d85a43567"), looks := false }, kinds := [], alts := [], laidByText := true, laidKinds := [.data, .data], laidTests := true, laidLooks := .later }
def MarkMarksUptoCardSaid : Prop := Claim7.holds Tryd.pinned (.plain (OpenSpec.upto markMarksSpec)) markMarksUptoCard

/-- THE SECOND FORM's CARD OF 'geodelaw23.MarkMore'. -/
def markMoreUptoCard : Claim7 := { stood := { row := markMoreUptoRow, standIns := [], harness := (true, "379527f179148a84ac912bca7f305710aa02887b3946d22c402b2b3d85a43567"), looks := false }, kinds := [], alts := [], laidByText := true, laidKinds := [.data, .data], laidTests := true, laidLooks := .later }
def MarkMoreUptoCardSaid : Prop := Claim7.holds Tryd.pinned (.plain (OpenSpec.upto markMoreSpec)) markMoreUptoCard

/-- THE SECOND FORM's CARD OF 'geodelaw23.MarkOrder'. -/
def markOrderUptoCard : Claim7 := { stood := { row := markOrderUptoRow, standIns := [], harness := (true, "379527f179148a84ac912bca7f305710aa02887b3946d22c402b2b3d85a43567"), looks := false }, kinds := [], alts := [], laidByText := true, laidKinds := [.data, .data], laidTests := true, laidLooks := .later }
def MarkOrderUptoCardSaid : Prop := Claim7.holds Tryd.pinned (.plain (OpenSpec.upto markOrderSpec)) markOrderUptoCard
end Rows
end Go.Proofs.YtfpfpopfnbcblaaDoor
