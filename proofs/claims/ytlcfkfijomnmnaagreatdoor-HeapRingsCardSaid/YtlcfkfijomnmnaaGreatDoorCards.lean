/-
  DERIVED. GIVEN WITH THE SEED: THE CARDS: each row of YtlcfkfijomnmnaaGreatDoorRows.lean that lists a variable, with what it lists TIED to the program's text (the seventh form; the later family's looks); each row that meets fmt, with fmt's text TOLD by the authors' own Lean function (tested against real Go, not proved from fmt's source: count such statements apart). THE CARD IS WHAT COUNTS. Prove the row's statement (the work); the ties are given (YtlcfkfijomnmnaaGreatDoorTie.lean); close each card by the builder's one call (the guide's Derived/Test/ToyasCard.lean, 'card_holds'). Laid BY PROGRAM, IN A SANDBOX (cutbox-door.mjs). By AI agents, Wed Nov 11 2026. No macro, syntax, notation, axiom, sorry.
-/
import Derived.Test.YtlcfkfijomnmnaaGreatDoorRows
import GoSem.ClaimSeven
namespace Go.Proofs.YtlcfkfijomnmnaaGreatDoor
namespace Rows

/-- THE TIED CARD OF 'geodelaw24.HeapFrees'. -/
def heapFreesCard : Claim7 := { stood := { row := heapFreesRow, standIns := [], harness := (true, "0f5c7ace0796a7387d024310d7123d6d6aa00c7876fb6dd0bebf7319f7143e65"), looks := false }, kinds := [], alts := [], laidByText := true, laidKinds := [.data, .data, .data, .data, .data, .pinned], laidTests := true, laidLooks := .later }
def HeapFreesCardSaid : Prop := Claim7.holds Tryz.pinned (.plain (OpenSpec.ofChange heapFreesSpec)) heapFreesCard

/-- THE TIED CARD OF 'geodelaw24.HeapRings'. -/
def heapRingsCard : Claim7 := { stood := { row := heapRingsRow, standIns := [], harness := (true, "0f5c7ace0796a7387d024310d7123d6d6aa00c7876fb6dd0bebf7319f7143e65"), looks := false }, kinds := [], alts := [], laidByText := true, laidKinds := [.data, .data, .data, .data, .data, .pinned], laidTests := true, laidLooks := .later }
def HeapRingsCardSaid : Prop := Claim7.holds Tryz.pinned (.plain (OpenSpec.ofChange heapRingsSpec)) heapRingsCard

/-- THE SECOND FORM's CARD OF 'geodelaw24.HeapFrees'. -/
def heapFreesUptoCard : Claim7 := { stood := { row := heapFreesUptoRow, standIns := [], harness := (true, "0f5c7ace0796a7387d024310d7123d6d6aa00c7876fb6dd0bebf7319f7143e65"), looks := false }, kinds := [], alts := [], laidByText := true, laidKinds := [.data, .data, .data, .data, .data, .pinned], laidTests := true, laidLooks := .later }
def HeapFreesUptoCardSaid : Prop := Claim7.holds Tryz.pinned (.plain (OpenSpec.upto heapFreesSpec)) heapFreesUptoCard

/-- THE SECOND FORM's CARD OF 'geodelaw24.HeapRings'. -/
def heapRingsUptoCard : Claim7 := { stood := { row := heapRingsUptoRow, standIns := [], harness := (true, "0f5c7ace0796a7387d024310d7123d6d6aa00c7876fb6dd0bebf7319f7143e65"), looks := false }, kinds := [], alts := [], laidByText := true, laidKinds := [.data, .data, .data, .data, .data, .pinned], laidTests := true, laidLooks := .later }
def HeapRingsUptoCardSaid : Prop := Claim7.holds Tryz.pinned (.plain (OpenSpec.upto heapRingsSpec)) heapRingsUptoCard
end Rows
end Go.Proofs.YtlcfkfijomnmnaaGreatDoor
