/-
  No cell of these rows narrows 'for every input' (looked for: loops, veiled, ifaces, maps, wideKeys, modest, calm, conditions, laid).
  DERIVED. THE GIVEN ROWS OF THIS SEAT. 5 by the template 'for every input the law returns true; each argument reads behind the call as it read before'; 0 by the template 'total and deterministic' (their statements: YtcjkmgjonnnapaaTotals.lean).
  GIVEN WITH THE SEED: the statements are not yours to turn. If you find one false, say at which input.
  Laid BY PROGRAM, IN A SANDBOX (cutbox-rows.mjs): the forced cells as the released guide's own fill.sh prints them over the translation 9da89349e19caaee… (all of the seat's roots in one cut). By AI agents, Wed Nov 11 2026. No macro, syntax, notation, axiom, sorry.
-/
import Derived.Test.YtcjkmgjonnnapaaChecked
import GoSem.Claim
import GoSem.ClaimJoined
import GoSem.ClaimMapViews
import Derived.JoinedTies
import Derived.KernelRfl
namespace Go.Proofs.Ytcjkmgjonnnapaa
/- THE CELL 'sum', in the pinned program and in every row, IS THE sha256 OF THE DUMP (.gsa) THAT YtcjkmgjonnnapaaProg.lean LOADS. Nothing in Lean hashes anything: it is a label: what it is worth is what the hold of that sum in a sandbox is worth. -/
noncomputable def Try.pinned : Pinned := { name := "ytcjkmgjonnnapaa", sum := "9da89349e19caaee6f768e38198e2b01da1804a5d8f28852e567fd3b0e560d80", checked := Try.checked }
namespace Rows
def none {H : Type} : Left H := { results := [], args := [] }

/-- 'geodelaw20.ArenaFresh': WHATEVER THE INPUT: true; the input reads as it did. -/
def arenaFreshSpec : ChangeSpec := { name := "arenaFresh", fn := fun _ => fun
  | [d1, d2, d3] => { results := [.lit (.bool true)], args := [d1, d2, d3] }
  | _ => none }
def arenaFreshRow : OpenClaim := { program := "ytcjkmgjonnnapaa", sum := "9da89349e19caaee6f768e38198e2b01da1804a5d8f28852e567fd3b0e560d80", func := "geode/geodelaw20.ArenaFresh", spec := "arenaFresh", inPlace := ["slices.overlaps[geode/arena.members]"], unfollowed := true, recurses := true, apart := false }
def ArenaFreshSaid : Prop := arenaFreshRow.holds Try.pinned (OpenSpec.ofChange arenaFreshSpec)

/-- ITS FALSE NEIGHBOUR: 'it returns false'. Refute it at one input. -/
def arenaFreshWrong : ChangeSpec := { name := "arenaFresh", fn := fun _ => fun
  | [d1, d2, d3] => { results := [.lit (.bool false)], args := [d1, d2, d3] }
  | _ => none }
def ArenaFreshWrongFalsely : Prop := arenaFreshRow.holds Try.pinned (OpenSpec.ofChange arenaFreshWrong)

/-- 'geodelaw20.ArenaBest': WHATEVER THE INPUT: true; the input reads as it did. -/
def arenaBestSpec : ChangeSpec := { name := "arenaBest", fn := fun _ => fun
  | [d1, d2, d3] => { results := [.lit (.bool true)], args := [d1, d2, d3] }
  | _ => none }
def arenaBestRow : OpenClaim := { program := "ytcjkmgjonnnapaa", sum := "9da89349e19caaee6f768e38198e2b01da1804a5d8f28852e567fd3b0e560d80", func := "geode/geodelaw20.ArenaBest", spec := "arenaBest", inPlace := ["slices.overlaps[geode/arena.members]"], unfollowed := true, recurses := true, apart := false }
def ArenaBestSaid : Prop := arenaBestRow.holds Try.pinned (OpenSpec.ofChange arenaBestSpec)

/-- ITS FALSE NEIGHBOUR: 'it returns false'. Refute it at one input. -/
def arenaBestWrong : ChangeSpec := { name := "arenaBest", fn := fun _ => fun
  | [d1, d2, d3] => { results := [.lit (.bool false)], args := [d1, d2, d3] }
  | _ => none }
def ArenaBestWrongFalsely : Prop := arenaBestRow.holds Try.pinned (OpenSpec.ofChange arenaBestWrong)

/-- 'geodelaw20.ArenaKeeps': WHATEVER THE INPUT: true; the input reads as it did. -/
def arenaKeepsSpec : ChangeSpec := { name := "arenaKeeps", fn := fun _ => fun
  | [d1, d2, d3] => { results := [.lit (.bool true)], args := [d1, d2, d3] }
  | _ => none }
def arenaKeepsRow : OpenClaim := { program := "ytcjkmgjonnnapaa", sum := "9da89349e19caaee6f768e38198e2b01da1804a5d8f28852e567fd3b0e560d80", func := "geode/geodelaw20.ArenaKeeps", spec := "arenaKeeps", inPlace := ["slices.overlaps[geode/arena.members]"], unfollowed := true, recurses := true, apart := false }
def ArenaKeepsSaid : Prop := arenaKeepsRow.holds Try.pinned (OpenSpec.ofChange arenaKeepsSpec)

/-- ITS FALSE NEIGHBOUR: 'it returns false'. Refute it at one input. -/
def arenaKeepsWrong : ChangeSpec := { name := "arenaKeeps", fn := fun _ => fun
  | [d1, d2, d3] => { results := [.lit (.bool false)], args := [d1, d2, d3] }
  | _ => none }
def ArenaKeepsWrongFalsely : Prop := arenaKeepsRow.holds Try.pinned (OpenSpec.ofChange arenaKeepsWrong)

/-- 'geodelaw22.ObjectWords': WHATEVER THE INPUT: true; the input reads as it did. -/
def objectWordsSpec : ChangeSpec := { name := "objectWords", fn := fun _ => fun
  | [d1, d2] => { results := [.lit (.bool true)], args := [d1, d2] }
  | _ => none }
def objectWordsRow : OpenClaim := { program := "ytcjkmgjonnnapaa", sum := "9da89349e19caaee6f768e38198e2b01da1804a5d8f28852e567fd3b0e560d80", func := "geode/geodelaw22.ObjectWords", spec := "objectWords", inPlace := ["slices.overlaps[geode/arena.members]"], unfollowed := true, recurses := true, apart := false }
def ObjectWordsSaid : Prop := objectWordsRow.holds Try.pinned (OpenSpec.ofChange objectWordsSpec)

/-- ITS FALSE NEIGHBOUR: 'it returns false'. Refute it at one input. -/
def objectWordsWrong : ChangeSpec := { name := "objectWords", fn := fun _ => fun
  | [d1, d2] => { results := [.lit (.bool false)], args := [d1, d2] }
  | _ => none }
def ObjectWordsWrongFalsely : Prop := objectWordsRow.holds Try.pinned (OpenSpec.ofChange objectWordsWrong)

/-- 'geodelaw22.ObjectKeeps': WHATEVER THE INPUT: true; the input reads as it did. -/
def objectKeepsSpec : ChangeSpec := { name := "objectKeeps", fn := fun _ => fun
  | [d1, d2, d3, d4] => { results := [.lit (.bool true)], args := [d1, d2, d3, d4] }
  | _ => none }
def objectKeepsRow : OpenClaim := { program := "ytcjkmgjonnnapaa", sum := "9da89349e19caaee6f768e38198e2b01da1804a5d8f28852e567fd3b0e560d80", func := "geode/geodelaw22.ObjectKeeps", spec := "objectKeeps", inPlace := ["slices.overlaps[geode/arena.members]"], unfollowed := true, recurses := true, apart := false }
def ObjectKeepsSaid : Prop := objectKeepsRow.holds Try.pinned (OpenSpec.ofChange objectKeepsSpec)

/-- ITS FALSE NEIGHBOUR: 'it returns false'. Refute it at one input. -/
def objectKeepsWrong : ChangeSpec := { name := "objectKeeps", fn := fun _ => fun
  | [d1, d2, d3, d4] => { results := [.lit (.bool false)], args := [d1, d2, d3, d4] }
  | _ => none }
def ObjectKeepsWrongFalsely : Prop := objectKeepsRow.holds Try.pinned (OpenSpec.ofChange objectKeepsWrong)

/- THE SECOND FORM. 'bulk': how many values and letters a reading holds, each counted each time it is reached (what is shared counts as often as it is met; a slice's spare places count too). A statement '..UptoSaid' is the law's where the arguments, and the package variables that the reading takes, are together of bulk at most 1048576: NARROWER than '..Said'. Prove '..Said' where nothing that the law and all that it calls make is longer than what came in: it says more and counts as full. Else prove '..UptoSaid'. A law counts once. -/
mutual
def uptoBulk {H : Type} : DataW H → Nat
  | .lit (.string bytes) => bytes.length + 1
  | .lit _ => 1
  | .nil => 1
  | .ptr d => uptoBulk d + 1
  | .slice elems spare => uptoBulkAll elems + uptoBulkAll spare + 1
  | .agg parts => uptoBulkAll parts + 1
  | .iface _ d => uptoBulk d + 1
  | .map entries => uptoBulkEntries entries + 1
  | .held _ => 1
def uptoBulkAll {H : Type} : List (DataW H) → Nat
  | [] => 0
  | d :: r => uptoBulk d + uptoBulkAll r
def uptoBulkEntries {H : Type} : List (Lit × DataW H) → Nat
  | [] => 0
  | x :: r => uptoBulkEntry x + uptoBulkEntries r
def uptoBulkEntry {H : Type} : Lit × DataW H → Nat
  | (.string bytes, d) => bytes.length + uptoBulk d + 1
  | (_, d) => uptoBulk d + 1
 end
def uptoSmall : (H : Type) → List (DataW H) → Bool := fun _ ds => decide (uptoBulkAll ds ≤ 1048576)
def OpenSpec.upto (s : _root_.Go.ChangeSpec) : _root_.Go.OpenSpec := { _root_.Go.OpenSpec.ofChange s with cond := some uptoSmall }

/-- 'geodelaw20.ArenaFresh', WHERE WHAT IT READS IS OF BULK AT MOST 1048576: true; the input reads as it did. -/
def arenaFreshUptoRow : OpenClaim := { program := "ytcjkmgjonnnapaa", sum := "9da89349e19caaee6f768e38198e2b01da1804a5d8f28852e567fd3b0e560d80", func := "geode/geodelaw20.ArenaFresh", spec := "arenaFresh", inPlace := ["slices.overlaps[geode/arena.members]"], unfollowed := true, recurses := true, apart := false, narrowed := true }
def ArenaFreshUptoSaid : Prop := arenaFreshUptoRow.holds Try.pinned (OpenSpec.upto arenaFreshSpec)

/-- 'geodelaw20.ArenaBest', WHERE WHAT IT READS IS OF BULK AT MOST 1048576: true; the input reads as it did. -/
def arenaBestUptoRow : OpenClaim := { program := "ytcjkmgjonnnapaa", sum := "9da89349e19caaee6f768e38198e2b01da1804a5d8f28852e567fd3b0e560d80", func := "geode/geodelaw20.ArenaBest", spec := "arenaBest", inPlace := ["slices.overlaps[geode/arena.members]"], unfollowed := true, recurses := true, apart := false, narrowed := true }
def ArenaBestUptoSaid : Prop := arenaBestUptoRow.holds Try.pinned (OpenSpec.upto arenaBestSpec)

/-- 'geodelaw20.ArenaKeeps', WHERE WHAT IT READS IS OF BULK AT MOST 1048576: true; the input reads as it did. -/
def arenaKeepsUptoRow : OpenClaim := { program := "ytcjkmgjonnnapaa", sum := "9da89349e19caaee6f768e38198e2b01da1804a5d8f28852e567fd3b0e560d80", func := "geode/geodelaw20.ArenaKeeps", spec := "arenaKeeps", inPlace := ["slices.overlaps[geode/arena.members]"], unfollowed := true, recurses := true, apart := false, narrowed := true }
def ArenaKeepsUptoSaid : Prop := arenaKeepsUptoRow.holds Try.pinned (OpenSpec.upto arenaKeepsSpec)

/-- 'geodelaw22.ObjectWords', WHERE WHAT IT READS IS OF BULK AT MOST 1048576: true; the input reads as it did. -/
def objectWordsUptoRow : OpenClaim := { program := "ytcjkmgjonnnapaa", sum := "9da89349e19caaee6f768e38198e2b01da1804a5d8f28852e567fd3b0e560d80", func := "geode/geodelaw22.ObjectWords", spec := "objectWords", inPlace := ["slices.overlaps[geode/arena.members]"], unfollowed := true, recurses := true, apart := false, narrowed := true }
def ObjectWordsUptoSaid : Prop := objectWordsUptoRow.holds Try.pinned (OpenSpec.upto objectWordsSpec)

/-- 'geodelaw22.ObjectKeeps', WHERE WHAT IT READS IS OF BULK AT MOST 1048576: true; the input reads as it did. -/
def objectKeepsUptoRow : OpenClaim := { program := "ytcjkmgjonnnapaa", sum := "9da89349e19caaee6f768e38198e2b01da1804a5d8f28852e567fd3b0e560d80", func := "geode/geodelaw22.ObjectKeeps", spec := "objectKeeps", inPlace := ["slices.overlaps[geode/arena.members]"], unfollowed := true, recurses := true, apart := false, narrowed := true }
def ObjectKeepsUptoSaid : Prop := objectKeepsUptoRow.holds Try.pinned (OpenSpec.upto objectKeepsSpec)

end Rows
end Go.Proofs.Ytcjkmgjonnnapaa
