/-
  No cell of these rows narrows 'for every input' (looked for: loops, veiled, ifaces, maps, wideKeys, modest, calm, conditions, laid).
  DERIVED. THE GIVEN ROWS OF THIS SEAT. 4 by the template 'for every input the law returns true; each argument reads behind the call as it read before'; 0 by the template 'total and deterministic' (their statements: YtjjhdbjbjgkijaaTotals.lean).
  GIVEN WITH THE SEED: the statements are not yours to turn. If you find one false, say at which input.
  Laid BY PROGRAM, IN A SANDBOX (cutbox-rows.mjs): the forced cells as the released guide's own fill.sh prints them over the translation ec5d8df6458616a2… (all of the seat's roots in one cut). By AI agents, Wed Nov 11 2026. No macro, syntax, notation, axiom, sorry.
-/
import Derived.Test.YtjjhdbjbjgkijaaChecked
import GoSem.Claim
import GoSem.ClaimJoined
import GoSem.ClaimMapViews
import Derived.JoinedTies
import Derived.KernelRfl
namespace Go.Proofs.Ytjjhdbjbjgkijaa
/- THE CELL 'sum', in the pinned program and in every row, IS THE sha256 OF THE DUMP (.gsa) THAT YtjjhdbjbjgkijaaProg.lean LOADS. Nothing in Lean hashes anything: it is a label: what it is worth is what the hold of that sum in a sandbox is worth. -/
noncomputable def Try.pinned : Pinned := { name := "ytjjhdbjbjgkijaa", sum := "ec5d8df6458616a27e193c7638965b21b808884e01489e4fdb99b820eaa378e9", checked := Try.checked }
namespace Rows
def none {H : Type} : Left H := { results := [], args := [] }

/-- 'geodelaw14.StackWithin': WHATEVER THE INPUT: true; the input reads as it did. -/
def stackWithinSpec : ChangeSpec := { name := "stackWithin", fn := fun _ => fun
  | [d1, d2, d3] => { results := [.lit (.bool true)], args := [d1, d2, d3] }
  | _ => none }
def stackWithinRow : OpenClaim := { program := "ytjjhdbjbjgkijaa", sum := "ec5d8df6458616a27e193c7638965b21b808884e01489e4fdb99b820eaa378e9", func := "geode/geodelaw14.StackWithin", spec := "stackWithin", unfollowed := true, recurses := true, apart := false }
def StackWithinSaid : Prop := stackWithinRow.holds Try.pinned (OpenSpec.ofChange stackWithinSpec)

/-- ITS FALSE NEIGHBOUR: 'it returns false'. Refute it at one input. -/
def stackWithinWrong : ChangeSpec := { name := "stackWithin", fn := fun _ => fun
  | [d1, d2, d3] => { results := [.lit (.bool false)], args := [d1, d2, d3] }
  | _ => none }
def StackWithinWrongFalsely : Prop := stackWithinRow.holds Try.pinned (OpenSpec.ofChange stackWithinWrong)

/-- 'geodelaw14.StackLabels': WHATEVER THE INPUT: true; the input reads as it did. -/
def stackLabelsSpec : ChangeSpec := { name := "stackLabels", fn := fun _ => fun
  | [d1, d2] => { results := [.lit (.bool true)], args := [d1, d2] }
  | _ => none }
def stackLabelsRow : OpenClaim := { program := "ytjjhdbjbjgkijaa", sum := "ec5d8df6458616a27e193c7638965b21b808884e01489e4fdb99b820eaa378e9", func := "geode/geodelaw14.StackLabels", spec := "stackLabels", unfollowed := true, recurses := true, apart := false }
def StackLabelsSaid : Prop := stackLabelsRow.holds Try.pinned (OpenSpec.ofChange stackLabelsSpec)

/-- ITS FALSE NEIGHBOUR: 'it returns false'. Refute it at one input. -/
def stackLabelsWrong : ChangeSpec := { name := "stackLabels", fn := fun _ => fun
  | [d1, d2] => { results := [.lit (.bool false)], args := [d1, d2] }
  | _ => none }
def StackLabelsWrongFalsely : Prop := stackLabelsRow.holds Try.pinned (OpenSpec.ofChange stackLabelsWrong)

/-- 'geodelaw14.StackNone': WHATEVER THE INPUT: true; the input reads as it did. -/
def stackNoneSpec : ChangeSpec := { name := "stackNone", fn := fun _ => fun
  | [d1, d2] => { results := [.lit (.bool true)], args := [d1, d2] }
  | _ => none }
def stackNoneRow : OpenClaim := { program := "ytjjhdbjbjgkijaa", sum := "ec5d8df6458616a27e193c7638965b21b808884e01489e4fdb99b820eaa378e9", func := "geode/geodelaw14.StackNone", spec := "stackNone", unfollowed := true, recurses := true, apart := false }
def StackNoneSaid : Prop := stackNoneRow.holds Try.pinned (OpenSpec.ofChange stackNoneSpec)

/-- ITS FALSE NEIGHBOUR: 'it returns false'. Refute it at one input. -/
def stackNoneWrong : ChangeSpec := { name := "stackNone", fn := fun _ => fun
  | [d1, d2] => { results := [.lit (.bool false)], args := [d1, d2] }
  | _ => none }
def StackNoneWrongFalsely : Prop := stackNoneRow.holds Try.pinned (OpenSpec.ofChange stackNoneWrong)

/-- 'geodelaw14.StackBack': WHATEVER THE INPUT: true; the input reads as it did. -/
def stackBackSpec : ChangeSpec := { name := "stackBack", fn := fun _ => fun
  | [d1, d2, d3, d4] => { results := [.lit (.bool true)], args := [d1, d2, d3, d4] }
  | _ => none }
def stackBackRow : OpenClaim := { program := "ytjjhdbjbjgkijaa", sum := "ec5d8df6458616a27e193c7638965b21b808884e01489e4fdb99b820eaa378e9", func := "geode/geodelaw14.StackBack", spec := "stackBack", unfollowed := true, recurses := true, apart := false }
def StackBackSaid : Prop := stackBackRow.holds Try.pinned (OpenSpec.ofChange stackBackSpec)

/-- ITS FALSE NEIGHBOUR: 'it returns false'. Refute it at one input. -/
def stackBackWrong : ChangeSpec := { name := "stackBack", fn := fun _ => fun
  | [d1, d2, d3, d4] => { results := [.lit (.bool false)], args := [d1, d2, d3, d4] }
  | _ => none }
def StackBackWrongFalsely : Prop := stackBackRow.holds Try.pinned (OpenSpec.ofChange stackBackWrong)

/- THE SECOND FORM. 'bulk': how many values and letters a reading holds, each counted each time it is reached (what is shared counts as often as it is met; a slice's spare places count too). A statement '..UptoSaid' is the law's where the arguments, and the package variables that the reading takes, are together of bulk at most 1048576: NARROWER than '..Said'. Prove '..Said' where nothing that the law and all that it calls make is longer than what came in: it says more and counts as full. Else prove '..UptoSaid'. A law counts once. -/
mutual
def uptoBulk {H : Type} : DataW H → Nat
  | .lit (.string bytes) => bytes.length + 1
  | .lit _ => 1
  | .nil => 1
  | .ptr d => uptoBulk d + 1
  | .slice elems spare => uptoBulkAll elems + uptoBulkAll spare + 1
  | .agg parts => uptoBulkAll parts + 1
  | .iface _ d => uptoBulk d + 1
  | .map entries => uptoBulkEntries entries + 1
  | .held _ => 1
def uptoBulkAll {H : Type} : List (DataW H) → Nat
  | [] => 0
  | d :: r => uptoBulk d + uptoBulkAll r
def uptoBulkEntries {H : Type} : List (Lit × DataW H) → Nat
  | [] => 0
  | x :: r => uptoBulkEntry x + uptoBulkEntries r
def uptoBulkEntry {H : Type} : Lit × DataW H → Nat
  | (.string bytes, d) => bytes.length + uptoBulk d + 1
  | (_, d) => uptoBulk d + 1
 end
def uptoSmall : (H : Type) → List (DataW H) → Bool := fun _ ds => decide (uptoBulkAll ds ≤ 1048576)
def OpenSpec.upto (s : _root_.Go.ChangeSpec) : _root_.Go.OpenSpec := { _root_.Go.OpenSpec.ofChange s with cond := some uptoSmall }

/-- 'geodelaw14.StackWithin', WHERE WHAT IT READS IS OF BULK AT MOST 1048576: true; the input reads as it did. -/
def stackWithinUptoRow : OpenClaim := { program := "ytjjhdbjbjgkijaa", sum := "ec5d8df6458616a27e193c7638965b21b808884e01489e4fdb99b820eaa378e9", func := "geode/geodelaw14.StackWithin", spec := "stackWithin", unfollowed := true, recurses := true, apart := false, narrowed := true }
def StackWithinUptoSaid : Prop := stackWithinUptoRow.holds Try.pinned (OpenSpec.upto stackWithinSpec)

/-- 'geodelaw14.StackLabels', WHERE WHAT IT READS IS OF BULK AT MOST 1048576: true; the input reads as it did. -/
def stackLabelsUptoRow : OpenClaim := { program := "ytjjhdbjbjgkijaa", sum := "ec5d8df6458616a27e193c7638965b21b808884e01489e4fdb99b820eaa378e9", func := "geode/geodelaw14.StackLabels", spec := "stackLabels", unfollowed := true, recurses := true, apart := false, narrowed := true }
def StackLabelsUptoSaid : Prop := stackLabelsUptoRow.holds Try.pinned (OpenSpec.upto stackLabelsSpec)

/-- 'geodelaw14.StackNone', WHERE WHAT IT READS IS OF BULK AT MOST 1048576: true; the input reads as it did. -/
def stackNoneUptoRow : OpenClaim := { program := "ytjjhdbjbjgkijaa", sum := "ec5d8df6458616a27e193c7638965b21b808884e01489e4fdb99b820eaa378e9", func := "geode/geodelaw14.StackNone", spec := "stackNone", unfollowed := true, recurses := true, apart := false, narrowed := true }
def StackNoneUptoSaid : Prop := stackNoneUptoRow.holds Try.pinned (OpenSpec.upto stackNoneSpec)

/-- 'geodelaw14.StackBack', WHERE WHAT IT READS IS OF BULK AT MOST 1048576: true; the input reads as it did. -/
def stackBackUptoRow : OpenClaim := { program := "ytjjhdbjbjgkijaa", sum := "ec5d8df6458616a27e193c7638965b21b808884e01489e4fdb99b820eaa378e9", func := "geode/geodelaw14.StackBack", spec := "stackBack", unfollowed := true, recurses := true, apart := false, narrowed := true }
def StackBackUptoSaid : Prop := stackBackUptoRow.holds Try.pinned (OpenSpec.upto stackBackSpec)

end Rows
end Go.Proofs.Ytjjhdbjbjgkijaa
