/-
  DERIVED. GIVEN WITH THE SEED: THE CARDS: each row of YtcihideabmpmjaaDoorRows.lean that lists a variable, with what it lists TIED to the program's text (the seventh form; the later family's looks); each row that meets fmt, with fmt's text TOLD by the authors' own Lean function (tested against real Go, not proved from fmt's source: count such statements apart). THE CARD IS WHAT COUNTS. Prove the row's statement (the work); the ties are given (YtcihideabmpmjaaDoorTie.lean); close each card by the builder's one call (the guide's Derived/Test/ToyasCard.lean, 'card_holds'). Laid BY PROGRAM, IN A SANDBOX (cutbox-door.mjs). By AI agents, Wed Nov 11 2026. No macro, syntax, notation, axiom, sorry.
-/
import Derived.Test.YtcihideabmpmjaaDoorRows
import GoSem.ClaimSeven
namespace Go.Proofs.YtcihideabmpmjaaDoor
namespace Rows

/-- THE TIED CARD OF 'geodelaw11.ChainLine'. -/
def chainLineCard : Claim7 := { stood := { row := chainLineRow, standIns := [], harness := (true, "57f5b063911e78521511ca99d7696d9252c025552b1015896d3f44e14ab5cbe4"), looks := false }, kinds := [], alts := [], laidByText := true, laidKinds := [.data, .data, .data, .data, .pinned], laidTests := true, laidLooks := .later }
def ChainLineCardSaid : Prop := Claim7.holds Tryd.pinned (.plain (OpenSpec.ofChange chainLineSpec)) chainLineCard

/-- THE TIED CARD OF 'geodelaw11.ChainNone'. -/
def chainNoneCard : Claim7 := { stood := { row := chainNoneRow, standIns := [], harness := (true, "57f5b063911e78521511ca99d7696d9252c025552b1015896d3f44e14ab5cbe4"), looks := false }, kinds := [], alts := [], laidByText := true, laidKinds := [.data, .data, .data, .data, .pinned], laidTests := true, laidLooks := .later }
def ChainNoneCardSaid : Prop := Claim7.holds Tryd.pinned (.plain (OpenSpec.ofChange chainNoneSpec)) chainNoneCard

/-- THE TIED CARD OF 'geodelaw11.ChainBelow'. -/
def chainBelowCard : Claim7 := { stood := { row := chainBelowRow, standIns := [], harness := (true, "57f5b063911e78521511ca99d7696d9252c025552b1015896d3f44e14ab5cbe4"), looks := false }, kinds := [], alts := [], laidByText := true, laidKinds := [.data, .data, .data, .data, .pinned], laidTests := true, laidLooks := .later }
def ChainBelowCardSaid : Prop := Claim7.holds Tryd.pinned (.plain (OpenSpec.ofChange chainBelowSpec)) chainBelowCard

/-- THE SECOND FORM's CARD OF 'geodelaw11.ChainLine'. -/
def chainLineUptoCard : Claim7 := { stood := { row := chainLineUptoRow, standIns := [], harness := (true, "57f5b063911e78521511ca99d7696d9252c025552b1015896d3f44e14ab5cbe4"), looks := false }, kinds := [], alts := [], laidByText := true, laidKinds := [.data, .data, .data, .data, .pinned], laidTests := true, laidLooks := .later }
def ChainLineUptoCardSaid : Prop := Claim7.holds Tryd.pinned (.plain (OpenSpec.upto chainLineSpec)) chainLineUptoCard

/-- THE SECOND FORM's CARD OF 'geodelaw11.ChainNone'. -/
def chainNoneUptoCard : Claim7 := { stood := { row := chainNoneUptoRow, standIns := [], harness := (true, "57f5b063911e78521511ca99d7696d9252c025552b1015896d3f44e14ab5cbe4"), looks := false }, kinds := [], alts := [], laidByText := true, laidKinds := [.data, .data, .data, .data, .pinned], laidTests := true, laidLooks := .later }
def ChainNoneUptoCardSaid : Prop := Claim7.holds Tryd.pinned (.plain (OpenSpec.upto chainNoneSpec)) chainNoneUptoCard

/-- THE SECOND FORM's CARD OF 'geodelaw11.ChainBelow'. -/
def chainBelowUptoCard : Claim7 := { stood := { row := chainBelowUptoRow, standIns := [], harness := (true, "57f5b063911e78521511ca99d7696d9252c025552b1015896d3f44e14ab5cbe4"), looks := false }, kinds := [], alts := [], laidByText := true, laidKinds := [.data, .data, .data, .data, .pinned], laidTests := true, laidLooks := .later }
def ChainBelowUptoCardSaid : Prop := Claim7.holds Tryd.pinned (.plain (OpenSpec.upto chainBelowSpec)) chainBelowUptoCard
end Rows
end Go.Proofs.YtcihideabmpmjaaDoor
