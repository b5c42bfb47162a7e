/-
  DERIVED. GIVEN WITH THE SEED: THE CARDS: each row of YtmjehnjodaicfaaDoorRows.lean that lists a variable, with what it lists TIED to the program's text (the seventh form; the later family's looks); each row that meets fmt, with fmt's text TOLD by the authors' own Lean function (tested against real Go, not proved from fmt's source: count such statements apart). THE CARD IS WHAT COUNTS. Prove the row's statement (the work); the ties are given (YtmjehnjodaicfaaDoorTie.lean); close each card by the builder's one call (the guide's Derived/Test/ToyasCard.lean, 'card_holds'). Laid BY PROGRAM, IN A SANDBOX (cutbox-door.mjs). By AI agents, Wed Nov 11 2026. No macro, syntax, notation, axiom, sorry.
-/
import Derived.Test.YtmjehnjodaicfaaDoorRows
import GoSem.ClaimSeven
namespace Go.Proofs.YtmjehnjodaicfaaDoor
namespace Rows

/-- THE TIED CARD OF 'geodelaw09.RollClose'. -/
def rollCloseCard : Claim7 := { stood := { row := rollCloseRow, standIns := [], harness := (true, "65825bb3a592522f01172aed6746daa944da2b7127d41e9bfa48a37ef66efd4e"), looks := true }, kinds := [], alts := [], laidByText := true, laidKinds := [.data, .data, .data, .data, .pinned], laidTests := true, laidLooks := .later }
def RollCloseCardSaid : Prop := Claim7.holds Tryd.pinned (.plain (OpenSpec.ofChange rollCloseSpec)) rollCloseCard

/-- THE TIED CARD OF 'geodelaw09.RollOnce'. -/
def rollOnceCard : Claim7 := { stood := { row := rollOnceRow, standIns := [], harness := (true, "65825bb3a592522f01172aed6746daa944da2b7127d41e9bfa48a37ef66efd4e"), looks := true }, kinds := [], alts := [], laidByText := true, laidKinds := [.data, .data, .data, .data, .pinned], laidTests := true, laidLooks := .later }
def RollOnceCardSaid : Prop := Claim7.holds Tryd.pinned (.plain (OpenSpec.ofChange rollOnceSpec)) rollOnceCard

/-- THE TIED CARD OF 'geodelaw09.RollGets'. -/
def rollGetsCard : Claim7 := { stood := { row := rollGetsRow, standIns := [], harness := (true, "65825bb3a592522f01172aed6746daa944da2b7127d41e9bfa48a37ef66efd4e"), looks := true }, kinds := [], alts := [], laidByText := true, laidKinds := [.data, .data, .data, .data, .pinned], laidTests := true, laidLooks := .later }
def RollGetsCardSaid : Prop := Claim7.holds Tryd.pinned (.plain (OpenSpec.ofChange rollGetsSpec)) rollGetsCard

/-- THE TIED CARD OF 'geodelaw09.RollNone'. -/
def rollNoneCard : Claim7 := { stood := { row := rollNoneRow, standIns := [], harness := (true, "65825bb3a592522f01172aed6746daa944da2b7127d41e9bfa48a37ef66efd4e"), looks := true }, kinds := [], alts := [], laidByText := true, laidKinds := [.data, .data, .data, .data, .pinned], laidTests := true, laidLooks := .later }
def RollNoneCardSaid : Prop := Claim7.holds Tryd.pinned (.plain (OpenSpec.ofChange rollNoneSpec)) rollNoneCard

/-- THE SECOND FORM's CARD OF 'geodelaw09.RollClose'. -/
def rollCloseUptoCard : Claim7 := { stood := { row := rollCloseUptoRow, standIns := [], harness := (true, "65825bb3a592522f01172aed6746daa944da2b7127d41e9bfa48a37ef66efd4e"), looks := true }, kinds := [], alts := [], laidByText := true, laidKinds := [.data, .data, .data, .data, .pinned], laidTests := true, laidLooks := .later }
def RollCloseUptoCardSaid : Prop := Claim7.holds Tryd.pinned (.plain (OpenSpec.upto rollCloseSpec)) rollCloseUptoCard

/-- THE SECOND FORM's CARD OF 'geodelaw09.RollOnce'. -/
def rollOnceUptoCard : Claim7 := { stood := { row := rollOnceUptoRow, standIns := [], harness := (true, "65825bb3a592522f01172aed6746daa944da2b7127d41e9bfa48a37ef66efd4e"), looks := true }, kinds := [], alts := [], laidByText := true, laidKinds := [.data, .data, .data, .data, .pinned], laidTests := true, laidLooks := .later }
def RollOnceUptoCardSaid : Prop := Claim7.holds Tryd.pinned (.plain (OpenSpec.upto rollOnceSpec)) rollOnceUptoCard

/-- THE SECOND FORM's CARD OF 'geodelaw09.RollGets'. -/
def rollGetsUptoCard : Claim7 := { stood := { row := rollGetsUptoRow, standIns := [], harness := (true, "65825bb3a592522f01172aed6746daa944da2b7127d41e9bfa48a37ef66efd4e"), looks := true }, kinds := [], alts := [], laidByText := true, laidKinds := [.data, .data, .data, .data, .pinned], laidTests := true, laidLooks := .later }
def RollGetsUptoCardSaid : Prop := Claim7.holds Tryd.pinned (.plain (OpenSpec.upto rollGetsSpec)) rollGetsUptoCard

/-- THE SECOND FORM's CARD OF 'geodelaw09.RollNone'. -/
def rollNoneUptoCard : Claim7 := { stood := { row := rollNoneUptoRow, standIns := [], harness := (true, "65825bb3a592522f01172aed6746daa944da2b7127d41e9bfa48a37ef66efd4e"), looks := true }, kinds := [], alts := [], laidByText := true, laidKinds := [.data, .data, .data, .data, .pinned], laidTests := true, laidLooks := .later }
def RollNoneUptoCardSaid : Prop := Claim7.holds Tryd.pinned (.plain (OpenSpec.upto rollNoneSpec)) rollNoneUptoCard
end Rows
end Go.Proofs.YtmjehnjodaicfaaDoor
