/-
  DERIVED. GIVEN WITH THE SEED: THE CARDS: each row of YtgjncajegegdhaaDoorRows.lean that lists a variable, with what it lists TIED to the program's text (the seventh form; the later family's looks); each row that meets fmt, with fmt's text TOLD by the authors' own Lean function (tested against real Go, not proved from fmt's source: count such statements apart). THE CARD IS WHAT COUNTS. Prove the row's statement (the work); the ties are given (YtgjncajegegdhaaDoorTie.lean); close each card by the builder's one call (the guide's Derived/Test/ToyasCard.lean, 'card_holds'). Laid BY PROGRAM, IN A SANDBOX (cutbox-door.mjs). By AI agents, Wed Nov 11 2026. No macro, syntax, notation, axiom, sorry.
-/
import Derived.Test.YtgjncajegegdhaaDoorRows
import GoSem.ClaimSeven
namespace Go.Proofs.YtgjncajegegdhaaDoor
namespace Rows

/-- THE TIED CARD OF 'geodelaw21.WordRefs'. -/
def wordRefsCard : Claim7 := { stood := { row := wordRefsRow, standIns := [], harness := (true, "0fda7bb92870abf30d4e05cab7b7f09b28ae76fad7a36c30b09f2ff821d29f72"), looks := false }, kinds := [], alts := [], laidByText := true, laidKinds := [.data], laidTests := true, laidLooks := .later }
def WordRefsCardSaid : Prop := Claim7.holds Tryd.pinned (.plain (OpenSpec.ofChange wordRefsSpec)) wordRefsCard

/-- THE TIED CARD OF 'geodelaw21.WordApart'. -/
def wordApartCard : Claim7 := { stood := { row := wordApartRow, standIns := [], harness := (true, "0fda7bb92870abf30d4e05cab7b7f09b28ae76fad7a36c30b09f2ff821d29f72"), looks := false }, kinds := [], alts := [], laidByText := true, laidKinds := [.data], laidTests := true, laidLooks := .later }
def WordApartCardSaid : Prop := Claim7.holds Tryd.pinned (.plain (OpenSpec.ofChange wordApartSpec)) wordApartCard

/-- THE TIED CARD OF 'geodelaw21.WordBack'. -/
def wordBackCard : Claim7 := { stood := { row := wordBackRow, standIns := [], harness := (true, "0fda7bb92870abf30d4e05cab7b7f09b28ae76fad7a36c30b09f2ff821d29f72"), looks := false }, kinds := [], alts := [], laidByText := true, laidKinds := [.data], laidTests := true, laidLooks := .later }
def WordBackCardSaid : Prop := Claim7.holds Tryd.pinned (.plain (OpenSpec.ofChange wordBackSpec)) wordBackCard

/-- THE TIED CARD OF 'geodelaw21.WordValues'. -/
def wordValuesCard : Claim7 := { stood := { row := wordValuesRow, standIns := [], harness := (true, "0fda7bb92870abf30d4e05cab7b7f09b28ae76fad7a36c30b09f2ff821d29f72"), looks := false }, kinds := [], alts := [], laidByText := true, laidKinds := [.data], laidTests := true, laidLooks := .later }
def WordValuesCardSaid : Prop := Claim7.holds Tryd.pinned (.plain (OpenSpec.ofChange wordValuesSpec)) wordValuesCard

/-- THE SECOND FORM's CARD OF 'geodelaw21.WordRefs'. -/
def wordRefsUptoCard : Claim7 := { stood := { row := wordRefsUptoRow, standIns := [], harness := (true, "0fda7bb92870abf30d4e05cab7b7f09b28ae76fad7a36c30b09f2ff821d29f72"), looks := false }, kinds := [], alts := [], laidByText := true, laidKinds := [.data], laidTests := true, laidLooks := .later }
def WordRefsUptoCardSaid : Prop := Claim7.holds Tryd.pinned (.plain (OpenSpec.upto wordRefsSpec)) wordRefsUptoCard

/-- THE SECOND FORM's CARD OF 'geodelaw21.WordApart'. -/
def wordApartUptoCard : Claim7 := { stood := { row := wordApartUptoRow, standIns := [], harness := (true, "0fda7bb92870abf30d4e05cab7b7f09b28ae76fad7a36c30b09f2ff821d29f72"), looks := false }, kinds := [], alts := [], laidByText := true, laidKinds := [.data], laidTests := true, laidLooks := .later }
def WordApartUptoCardSaid : Prop := Claim7.holds Tryd.pinned (.plain (OpenSpec.upto wordApartSpec)) wordApartUptoCard

/-- THE SECOND FORM's CARD OF 'geodelaw21.WordBack'. -/
def wordBackUptoCard : Claim7 := { stood := { row := wordBackUptoRow, standIns := [], harness := (true, "0fda7bb92870abf30d4e05cab7b7f09b28ae76fad7a36c30b09f2ff821d29f72"), looks := false }, kinds := [], alts := [], laidByText := true, laidKinds := [.data], laidTests := true, laidLooks := .later }
def WordBackUptoCardSaid : Prop := Claim7.holds Tryd.pinned (.plain (OpenSpec.upto wordBackSpec)) wordBackUptoCard

/-- THE SECOND FORM's CARD OF 'geodelaw21.WordValues'. -/
def wordValuesUptoCard : Claim7 := { stood := { row := wordValuesUptoRow, standIns := [], harness := (true, "0fda7bb92870abf30d4e05cab7b7f09b28ae76fad7a36c30b09f2ff821d29f72"), looks := false }, kinds := [], alts := [], laidByText := true, laidKinds := [.data], laidTests := true, laidLooks := .later }
def WordValuesUptoCardSaid : Prop := Claim7.holds Tryd.pinned (.plain (OpenSpec.upto wordValuesSpec)) wordValuesUptoCard
end Rows
end Go.Proofs.YtgjncajegegdhaaDoor
