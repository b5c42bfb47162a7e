/-
  DERIVED. GIVEN WITH THE SEED: THE CARDS: each row of YtcjkmgjonnnapaaDoorRows.lean that lists a variable, with what it lists TIED to the program's text (the seventh form; the later family's looks); each row that meets fmt, with fmt's text TOLD by the authors' own Lean function (tested against real Go, not proved from fmt's source: count such statements apart). THE CARD IS WHAT COUNTS. Prove the row's statement (the work); the ties are given (YtcjkmgjonnnapaaDoorTie.lean); close each card by the builder's one call (the guide's Derived/Test/ToyasCard.lean, 'card_holds'). Laid BY PROGRAM, IN A SANDBOX (cutbox-door.mjs). By AI agents, Wed Nov 11 2026. No macro, syntax, notation, axiom, sorry.
-/
import Derived.Test.YtcjkmgjonnnapaaDoorRows
import GoSem.ClaimSeven
namespace Go.Proofs.YtcjkmgjonnnapaaDoor
namespace Rows

/-- THE TIED CARD OF 'geodelaw20.ArenaPlays'. -/
def arenaPlaysCard : Claim7 := { stood := { row := arenaPlaysRow, standIns := [], harness := (true, "d8ed24135f7525b9d0cbd8542819ce333b923972ea00f30bc9cdd555f33711bb"), looks := false }, kinds := [], alts := [], laidByText := true, laidKinds := [.data], laidTests := true, laidLooks := .later }
def ArenaPlaysCardSaid : Prop := Claim7.holds Tryd.pinned (.plain (OpenSpec.ofChange arenaPlaysSpec)) arenaPlaysCard

/-- THE TIED CARD OF 'geodelaw20.ArenaNone'. -/
def arenaNoneCard : Claim7 := { stood := { row := arenaNoneRow, standIns := [], harness := (true, "d8ed24135f7525b9d0cbd8542819ce333b923972ea00f30bc9cdd555f33711bb"), looks := false }, kinds := [], alts := [], laidByText := true, laidKinds := [.data], laidTests := true, laidLooks := .later }
def ArenaNoneCardSaid : Prop := Claim7.holds Tryd.pinned (.plain (OpenSpec.ofChange arenaNoneSpec)) arenaNoneCard

/-- THE TIED CARD OF 'geodelaw23.MarkMarks'. -/
def markMarksCard : Claim7 := { stood := { row := markMarksRow, standIns := [], harness := (true, "d8ed24135f7525b9d0cbd8542819ce333b923972ea00f30bc9cdd555f33711bb"), looks := false }, kinds := [], alts := [], laidByText := true, laidKinds := [.data, .data], laidTests := true, laidLooks := .later }
def MarkMarksCardSaid : Prop := Claim7.holds Tryd.pinned (.plain (OpenSpec.ofChange markMarksSpec)) markMarksCard

/-- THE TIED CARD OF 'geodelaw23.MarkMore'. -/
def markMoreCard : Claim7 := { stood := { row := markMoreRow, standIns := [], harness := (true, "d8ed24135f7525b9d0cbd8542819ce333b923972ea00f30bc9cdd555f33711bb"), looks := false }, kinds := [], alts := [], laidByText := true, laidKinds := [.data, .data], laidTests := true, laidLooks := .later }
def MarkMoreCardSaid : Prop := Claim7.holds Tryd.pinned (.plain (OpenSpec.ofChange markMoreSpec)) markMoreCard

/-- THE TIED CARD OF 'geodelaw23.MarkOrder'. -/
def markOrderCard : Claim7 := { stood := { row := markOrderRow, standIns := [], harness := (true, "d8ed24135f7525b9d0cbd8542819ce333b923972ea00f30bc9cdd555f33711bb"), looks := false }, kinds := [], alts := [], laidByText := true, laidKinds := [.data, .data], laidTests := true, laidLooks := .later }
def MarkOrderCardSaid : Prop := Claim7.holds Tryd.pinned (.plain (OpenSpec.ofChange markOrderSpec)) markOrderCard

/-- THE SECOND FORM's CARD OF 'geodelaw20.ArenaPlays'. -/
def arenaPlaysUptoCard : Claim7 := { stood := { row := arenaPlaysUptoRow, standIns := [], harness := (true, "d8ed24135f7525b9d0cbd8542819ce333b923972ea00f30bc9cdd555f33711bb"), looks := false }, kinds := [], alts := [], laidByText := true, laidKinds := [.data], laidTests := true, laidLooks := .later }
def ArenaPlaysUptoCardSaid : Prop := Claim7.holds Tryd.pinned (.plain (OpenSpec.upto arenaPlaysSpec)) arenaPlaysUptoCard

/-- THE SECOND FORM's CARD OF 'geodelaw20.ArenaNone'. -/
def arenaNoneUptoCard : Claim7 := { stood := { row := arenaNoneUptoRow, standIns := [], harness := (true, "d8ed24135f7525b9d0cbd8542819ce333b923972ea00f30bc9cdd555f33711bb"), looks := false }, kinds := [], alts := [], laidByText := true, laidKinds := [.data], laidTests := true, laidLooks := .later }
def ArenaNoneUptoCardSaid : Prop := Claim7.holds Tryd.pinned (.plain (OpenSpec.upto arenaNoneSpec)) arenaNoneUptoCard

/-- THE SECOND FORM's CARD OF 'geodelaw23.MarkMarks'. -/
def markMarksUptoCard : Claim7 := { stood := { row := markMarksUptoRow, standIns := [], harness := (true, "d8ed24135f7525b9d0cbd8542819ce333b923972ea00f30bc9cdd555f33711bb"), looks := false }, kinds := [], alts := [], laidByText := true, laidKinds := [.data, .data], laidTests := true, laidLooks := .later }
def MarkMarksUptoCardSaid : Prop := Claim7.holds Tryd.pinned (.plain (OpenSpec.upto markMarksSpec)) markMarksUptoCard

/-- THE SECOND FORM's CARD OF 'geodelaw23.MarkMore'. -/
def markMoreUptoCard : Claim7 := { stood := { row := markMoreUptoRow, standIns := [], harness := (true, "d8ed24135f7525b9d0cbd8542819ce333b923972ea00f30bc9cdd555f33711bb"), looks := false }, kinds := [], alts := [], laidByText := true, laidKinds := [.data, .data], laidTests := true, laidLooks := .later }
def MarkMoreUptoCardSaid : Prop := Claim7.holds Tryd.pinned (.plain (OpenSpec.upto markMoreSpec)) markMoreUptoCard

/-- THE SECOND FORM's CARD OF 'geodelaw23.MarkOrder'. -/
def markOrderUptoCard : Claim7 := { stood := { row := markOrderUptoRow, standIns := [], harness := (true, "d8ed24135f7525b9d0cbd8542819ce333b923972ea00f30bc9cdd555f33711bb"), looks := false }, kinds := [], alts := [], laidByText := true, laidKinds := [.data, .data], laidTests := true, laidLooks := .later }
def MarkOrderUptoCardSaid : Prop := Claim7.holds Tryd.pinned (.plain (OpenSpec.upto markOrderSpec)) markOrderUptoCard
end Rows
end Go.Proofs.YtcjkmgjonnnapaaDoor
