/-
  DERIVED. GIVEN WITH THE SEED: THE CARDS: each row of YtoamhiaagaaaaaaGreatDoorRows.lean that lists a variable, with what it lists TIED to the program's text (the seventh form; the later family's looks); each row that meets fmt, with fmt's text TOLD by the authors' own Lean function (tested against real Go, not proved from fmt's source: count such statements apart). THE CARD IS WHAT COUNTS. Prove the row's statement (the work); the ties are given (YtoamhiaagaaaaaaGreatDoorTie.lean); close each card by the builder's one call (the guide's Derived/Test/ToyasCard.lean, 'card_holds'). Laid BY PROGRAM, IN A SANDBOX (cutbox-door.mjs). By AI agents, Wed Nov 11 2026. No macro, syntax, notation, axiom, sorry.
-/
import Derived.Test.YtoamhiaagaaaaaaGreatDoorRows
import GoSem.ClaimSeven
namespace Go.Proofs.YtoamhiaagaaaaaaGreatDoor
namespace Rows

/-- THE TIED CARD OF 'geodelaw09.RollPlays'. -/
def rollPlaysCard : Claim7 := { stood := { row := rollPlaysRow, standIns := [], harness := (true, "05a3132e82d8799994de960751b26223ab7524b66f6e5f97a7cb58ecc492ca0b"), looks := true }, kinds := [], alts := [], laidByText := true, laidKinds := [.data, .data, .data, .data, .pinned], laidTests := true, laidLooks := .later }
def RollPlaysCardSaid : Prop := Claim7.holds Tryz.pinned (.plain (OpenSpec.ofChange rollPlaysSpec)) rollPlaysCard

/-- THE TIED CARD OF 'geodelaw11.ChainGrows'. -/
def chainGrowsCard : Claim7 := { stood := { row := chainGrowsRow, standIns := [], harness := (true, "05a3132e82d8799994de960751b26223ab7524b66f6e5f97a7cb58ecc492ca0b"), looks := true }, kinds := [], alts := [], laidByText := true, laidKinds := [.data, .data, .data, .data, .pinned], laidTests := true, laidLooks := .later }
def ChainGrowsCardSaid : Prop := Claim7.holds Tryz.pinned (.plain (OpenSpec.ofChange chainGrowsSpec)) chainGrowsCard

/-- THE TIED CARD OF 'geodelaw10.MatchWidth'. -/
def matchWidthCard : Claim7 := { stood := { row := matchWidthRow, standIns := [], harness := (true, "05a3132e82d8799994de960751b26223ab7524b66f6e5f97a7cb58ecc492ca0b"), looks := true }, kinds := [], alts := [], laidByText := true, laidKinds := [.data, .data, .data, .data, .pinned], laidTests := true, laidLooks := .later }
def MatchWidthCardSaid : Prop := Claim7.holds Tryz.pinned (.plain (OpenSpec.ofChange matchWidthSpec)) matchWidthCard

/-- THE TIED CARD OF 'geodelaw10.MatchOrder'. -/
def matchOrderCard : Claim7 := { stood := { row := matchOrderRow, standIns := [], harness := (true, "05a3132e82d8799994de960751b26223ab7524b66f6e5f97a7cb58ecc492ca0b"), looks := true }, kinds := [], alts := [], laidByText := true, laidKinds := [.data, .data, .data, .data, .pinned], laidTests := true, laidLooks := .later }
def MatchOrderCardSaid : Prop := Claim7.holds Tryz.pinned (.plain (OpenSpec.ofChange matchOrderSpec)) matchOrderCard

/-- THE SECOND FORM's CARD OF 'geodelaw09.RollPlays'. -/
def rollPlaysUptoCard : Claim7 := { stood := { row := rollPlaysUptoRow, standIns := [], harness := (true, "05a3132e82d8799994de960751b26223ab7524b66f6e5f97a7cb58ecc492ca0b"), looks := true }, kinds := [], alts := [], laidByText := true, laidKinds := [.data, .data, .data, .data, .pinned], laidTests := true, laidLooks := .later }
def RollPlaysUptoCardSaid : Prop := Claim7.holds Tryz.pinned (.plain (OpenSpec.upto rollPlaysSpec)) rollPlaysUptoCard

/-- THE SECOND FORM's CARD OF 'geodelaw11.ChainGrows'. -/
def chainGrowsUptoCard : Claim7 := { stood := { row := chainGrowsUptoRow, standIns := [], harness := (true, "05a3132e82d8799994de960751b26223ab7524b66f6e5f97a7cb58ecc492ca0b"), looks := true }, kinds := [], alts := [], laidByText := true, laidKinds := [.data, .data, .data, .data, .pinned], laidTests := true, laidLooks := .later }
def ChainGrowsUptoCardSaid : Prop := Claim7.holds Tryz.pinned (.plain (OpenSpec.upto chainGrowsSpec)) chainGrowsUptoCard

/-- THE SECOND FORM's CARD OF 'geodelaw10.MatchWidth'. -/
def matchWidthUptoCard : Claim7 := { stood := { row := matchWidthUptoRow, standIns := [], harness := (true, "05a3132e82d8799994de960751b26223ab7524b66f6e5f97a7cb58ecc492ca0b"), looks := true }, kinds := [], alts := [], laidByText := true, laidKinds := [.data, .data, .data, .data, .pinned], laidTests := true, laidLooks := .later }
def MatchWidthUptoCardSaid : Prop := Claim7.holds Tryz.pinned (.plain (OpenSpec.upto matchWidthSpec)) matchWidthUptoCard

/-- THE SECOND FORM's CARD OF 'geodelaw10.MatchOrder'. -/
def matchOrderUptoCard : Claim7 := { stood := { row := matchOrderUptoRow, standIns := [], harness := (true, "05a3132e82d8799994de960751b26223ab7524b66f6e5f97a7cb58ecc492ca0b"), looks := true }, kinds := [], alts := [], laidByText := true, laidKinds := [.data, .data, .data, .data, .pinned], laidTests := true, laidLooks := .later }
def MatchOrderUptoCardSaid : Prop := Claim7.holds Tryz.pinned (.plain (OpenSpec.upto matchOrderSpec)) matchOrderUptoCard
end Rows
end Go.Proofs.YtoamhiaagaaaaaaGreatDoor
