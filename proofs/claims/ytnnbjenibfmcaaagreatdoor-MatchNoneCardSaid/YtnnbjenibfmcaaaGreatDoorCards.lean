/-
  DERIVED. GIVEN WITH THE SEED: THE CARDS: each row of YtnnbjenibfmcaaaGreatDoorRows.lean that lists a variable, with what it lists TIED to the program's text (the seventh form; the later family's looks); each row that meets fmt, with fmt's text TOLD by the authors' own Lean function (tested against real Go, not proved from fmt's source: count such statements apart). THE CARD IS WHAT COUNTS. Prove the row's statement (the work); the ties are given (YtnnbjenibfmcaaaGreatDoorTie.lean); close each card by the builder's one call (the guide's Derived/Test/ToyasCard.lean, 'card_holds'). Laid BY PROGRAM, IN A SANDBOX (cutbox-door.mjs). By AI agents, Wed Nov 11 2026. No macro, syntax, notation, axiom, sorry.
-/
import Derived.Test.YtnnbjenibfmcaaaGreatDoorRows
import GoSem.ClaimSeven
namespace Go.Proofs.YtnnbjenibfmcaaaGreatDoor
namespace Rows

/-- THE TIED CARD OF 'geodelaw10.MatchWidth'. -/
def matchWidthCard : Claim7 := { stood := { row := matchWidthRow, standIns := [], harness := (true, "5811a30a47a6632757131d5da1472e91794d20a21627e4c54b037621c1da7865"), looks := false }, kinds := [], alts := [], laidByText := true, laidKinds := [.data, .data, .data, .data, .pinned], laidTests := true, laidLooks := .later }
def MatchWidthCardSaid : Prop := Claim7.holds Tryz.pinned (.plain (OpenSpec.ofChange matchWidthSpec)) matchWidthCard

/-- THE TIED CARD OF 'geodelaw10.MatchNone'. -/
def matchNoneCard : Claim7 := { stood := { row := matchNoneRow, standIns := [], harness := (true, "5811a30a47a6632757131d5da1472e91794d20a21627e4c54b037621c1da7865"), looks := false }, kinds := [], alts := [], laidByText := true, laidKinds := [.data, .data, .data, .data, .pinned], laidTests := true, laidLooks := .later }
def MatchNoneCardSaid : Prop := Claim7.holds Tryz.pinned (.plain (OpenSpec.ofChange matchNoneSpec)) matchNoneCard

/-- THE TIED CARD OF 'geodelaw10.MatchOrder'. -/
def matchOrderCard : Claim7 := { stood := { row := matchOrderRow, standIns := [], harness := (true, "5811a30a47a6632757131d5da1472e91794d20a21627e4c54b037621c1da7865"), looks := false }, kinds := [], alts := [], laidByText := true, laidKinds := [.data, .data, .data, .data, .pinned], laidTests := true, laidLooks := .later }
def MatchOrderCardSaid : Prop := Claim7.holds Tryz.pinned (.plain (OpenSpec.ofChange matchOrderSpec)) matchOrderCard

/-- THE SECOND FORM's CARD OF 'geodelaw10.MatchWidth'. -/
def matchWidthUptoCard : Claim7 := { stood := { row := matchWidthUptoRow, standIns := [], harness := (true, "5811a30a47a6632757131d5da1472e91794d20a21627e4c54b037621c1da7865"), looks := false }, kinds := [], alts := [], laidByText := true, laidKinds := [.data, .data, .data, .data, .pinned], laidTests := true, laidLooks := .later }
def MatchWidthUptoCardSaid : Prop := Claim7.holds Tryz.pinned (.plain (OpenSpec.upto matchWidthSpec)) matchWidthUptoCard

/-- THE SECOND FORM's CARD OF 'geodelaw10.MatchNone'. -/
def matchNoneUptoCard : Claim7 := { stood := { row := matchNoneUptoRow, standIns := [], harness := (true, "5811a30a47a6632757131d5da1472e91794d20a21627e4c54b037621c1da7865"), looks := false }, kinds := [], alts := [], laidByText := true, laidKinds := [.data, .data, .data, .data, .pinned], laidTests := true, laidLooks := .later }
def MatchNoneUptoCardSaid : Prop := Claim7.holds Tryz.pinned (.plain (OpenSpec.upto matchNoneSpec)) matchNoneUptoCard

/-- THE SECOND FORM's CARD OF 'geodelaw10.MatchOrder'. -/
def matchOrderUptoCard : Claim7 := { stood := { row := matchOrderUptoRow, standIns := [], harness := (true, "5811a30a47a6632757131d5da1472e91794d20a21627e4c54b037621c1da7865"), looks := false }, kinds := [], alts := [], laidByText := true, laidKinds := [.data, .data, .data, .data, .pinned], laidTests := true, laidLooks := .later }
def MatchOrderUptoCardSaid : Prop := Claim7.holds Tryz.pinned (.plain (OpenSpec.upto matchOrderSpec)) matchOrderUptoCard
end Rows
end Go.Proofs.YtnnbjenibfmcaaaGreatDoor
