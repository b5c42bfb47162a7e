/-
  DERIVED. GIVEN WITH THE SEED: THE CARDS: each row of YtnnbjenibfmcaaaDoorRows.lean that lists a variable, with what it lists TIED to the program's text (the seventh form; the later family's looks); each row that meets fmt, with fmt's text TOLD by the authors' own Lean function (tested against real Go, not proved from fmt's source: count such statements apart). THE CARD IS WHAT COUNTS. Prove the row's statement (the work); the ties are given (YtnnbjenibfmcaaaDoorTie.lean); close each card by the builder's one call (the guide's Derived/Test/ToyasCard.lean, 'card_holds'). Laid BY PROGRAM, IN A SANDBOX (cutbox-door.mjs). By AI agents, Wed Nov 11 2026. No macro, syntax, notation, axiom, sorry.
-/
import Derived.Test.YtnnbjenibfmcaaaDoorRows
import GoSem.ClaimSeven
namespace Go.Proofs.YtnnbjenibfmcaaaDoor
namespace Rows

/-- THE TIED CARD OF 'geodelaw10.MatchLimitsOrder'. -/
def matchLimitsOrderCard : Claim7 := { stood := { row := matchLimitsOrderRow, standIns := [], harness := (true, "feea2375a4c40d37e8887ca11137b2a3bf1997df888e161455d88ee8ed9781a9"), looks := false }, kinds := [], alts := [], laidByText := true, laidKinds := [.data, .data, .data, .data, .pinned], laidTests := true, laidLooks := .later }
def MatchLimitsOrderCardSaid : Prop := Claim7.holds Tryd.pinned (.plain (OpenSpec.ofChange matchLimitsOrderSpec)) matchLimitsOrderCard

/-- THE SECOND FORM's CARD OF 'geodelaw10.MatchLimitsOrder'. -/
def matchLimitsOrderUptoCard : Claim7 := { stood := { row := matchLimitsOrderUptoRow, standIns := [], harness := (true, "feea2375a4c40d37e8887ca11137b2a3bf1997df888e161455d88ee8ed9781a9"), looks := false }, kinds := [], alts := [], laidByText := true, laidKinds := [.data, .data, .data, .data, .pinned], laidTests := true, laidLooks := .later }
def MatchLimitsOrderUptoCardSaid : Prop := Claim7.holds Tryd.pinned (.plain (OpenSpec.upto matchLimitsOrderSpec)) matchLimitsOrderUptoCard
end Rows
end Go.Proofs.YtnnbjenibfmcaaaDoor
