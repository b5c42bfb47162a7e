/-
  DERIVED. GIVEN WITH THE SEED: THE CARDS: each row of YtpddbaijnjbfdaaGreatDoorRows.lean that lists a variable, with what it lists TIED to the program's text (the seventh form; the later family's looks); each row that meets fmt, with fmt's text TOLD by the authors' own Lean function (tested against real Go, not proved from fmt's source: count such statements apart). THE CARD IS WHAT COUNTS. Prove the row's statement (the work); the ties are given (YtpddbaijnjbfdaaGreatDoorTie.lean); close each card by the builder's one call (the guide's Derived/Test/ToyasCard.lean, 'card_holds'). Laid BY PROGRAM, IN A SANDBOX (cutbox-door.mjs). By AI agents, Wed Nov 11 2026. No macro, syntax, notation, axiom, sorry.
-/
import Derived.Test.YtpddbaijnjbfdaaGreatDoorRows
import GoSem.ClaimSeven
namespace Go.Proofs.YtpddbaijnjbfdaaGreatDoor
namespace Rows

/-- THE TIED CARD OF 'geodelaw12.DeclComps'. -/
def declCompsCard : Claim7 := { stood := { row := declCompsRow, standIns := [], harness := (true, "115c12e48eab4a61fe8f2890b712dd63403fb0efcd13a908c8bfc593a910b3bc"), looks := false }, kinds := [], alts := [], laidByText := true, laidKinds := [.data, .data, .data, .data, .pinned], laidTests := true, laidLooks := .later }
def DeclCompsCardSaid : Prop := Claim7.holds Tryz.pinned (.plain (OpenSpec.ofChange declCompsSpec)) declCompsCard

/-- THE TIED CARD OF 'geodelaw13.SpaceFuncs'. -/
def spaceFuncsCard : Claim7 := { stood := { row := spaceFuncsRow, standIns := [], harness := (true, "115c12e48eab4a61fe8f2890b712dd63403fb0efcd13a908c8bfc593a910b3bc"), looks := false }, kinds := [], alts := [], laidByText := true, laidKinds := [.data, .data, .data, .data, .pinned], laidTests := true, laidLooks := .later }
def SpaceFuncsCardSaid : Prop := Claim7.holds Tryz.pinned (.plain (OpenSpec.ofChange spaceFuncsSpec)) spaceFuncsCard

/-- THE TIED CARD OF 'geodelaw13.SpaceHolds'. -/
def spaceHoldsCard : Claim7 := { stood := { row := spaceHoldsRow, standIns := [], harness := (true, "115c12e48eab4a61fe8f2890b712dd63403fb0efcd13a908c8bfc593a910b3bc"), looks := false }, kinds := [], alts := [], laidByText := true, laidKinds := [.data, .data, .data, .data, .pinned], laidTests := true, laidLooks := .later }
def SpaceHoldsCardSaid : Prop := Claim7.holds Tryz.pinned (.plain (OpenSpec.ofChange spaceHoldsSpec)) spaceHoldsCard

/-- THE TIED CARD OF 'geodelaw13.SpaceGrows'. -/
def spaceGrowsCard : Claim7 := { stood := { row := spaceGrowsRow, standIns := [], harness := (true, "115c12e48eab4a61fe8f2890b712dd63403fb0efcd13a908c8bfc593a910b3bc"), looks := false }, kinds := [], alts := [], laidByText := true, laidKinds := [.data, .data, .data, .data, .pinned], laidTests := true, laidLooks := .later }
def SpaceGrowsCardSaid : Prop := Claim7.holds Tryz.pinned (.plain (OpenSpec.ofChange spaceGrowsSpec)) spaceGrowsCard

/-- THE SECOND FORM's CARD OF 'geodelaw12.DeclComps'. -/
def declCompsUptoCard : Claim7 := { stood := { row := declCompsUptoRow, standIns := [], harness := (true, "115c12e48eab4a61fe8f2890b712dd63403fb0efcd13a908c8bfc593a910b3bc"), looks := false }, kinds := [], alts := [], laidByText := true, laidKinds := [.data, .data, .data, .data, .pinned], laidTests := true, laidLooks := .later }
def DeclCompsUptoCardSaid : Prop := Claim7.holds Tryz.pinned (.plain (OpenSpec.upto declCompsSpec)) declCompsUptoCard

/-- THE SECOND FORM's CARD OF 'geodelaw13.SpaceFuncs'. -/
def spaceFuncsUptoCard : Claim7 := { stood := { row := spaceFuncsUptoRow, standIns := [], harness := (true, "115c12e48eab4a61fe8f2890b712dd63403fb0efcd13a908c8bfc593a910b3bc"), looks := false }, kinds := [], alts := [], laidByText := true, laidKinds := [.data, .data, .data, .data, .pinned], laidTests := true, laidLooks := .later }
def SpaceFuncsUptoCardSaid : Prop := Claim7.holds Tryz.pinned (.plain (OpenSpec.upto spaceFuncsSpec)) spaceFuncsUptoCard

/-- THE SECOND FORM's CARD OF 'geodelaw13.SpaceHolds'. -/
def spaceHoldsUptoCard : Claim7 := { stood := { row := spaceHoldsUptoRow, standIns := [], harness := (true, "115c12e48eab4a61fe8f2890b712dd63403fb0efcd13a908c8bfc593a910b3bc"), looks := false }, kinds := [], alts := [], laidByText := true, laidKinds := [.data, .data, .data, .data, .pinned], laidTests := true, laidLooks := .later }
def SpaceHoldsUptoCardSaid : Prop := Claim7.holds Tryz.pinned (.plain (OpenSpec.upto spaceHoldsSpec)) spaceHoldsUptoCard

/-- THE SECOND FORM's CARD OF 'geodelaw13.SpaceGrows'. -/
def spaceGrowsUptoCard : Claim7 := { stood := { row := spaceGrowsUptoRow, standIns := [], harness := (true, "115c12e48eab4a61fe8f2890b712dd63403fb0efcd13a908c8bfc593a910b3bc"), looks := false }, kinds := [], alts := [], laidByText := true, laidKinds := [.data, .data, .data, .data, .pinned], laidTests := true, laidLooks := .later }
def SpaceGrowsUptoCardSaid : Prop := Claim7.holds Tryz.pinned (.plain (OpenSpec.upto spaceGrowsSpec)) spaceGrowsUptoCard
end Rows
end Go.Proofs.YtpddbaijnjbfdaaGreatDoor
