/-
  NARROWER THAN 'FOR EVERY INPUT', by the rows' own cells (each row's printed sentence says how): MarkMarks: laid · MarkMore: laid · MarkOrder: laid.
  DERIVED. THE GIVEN ROWS OF THIS SEAT. 3 by the template 'for every input the law returns true; each argument reads behind the call as it read before'; 0 by the template 'total and deterministic' (their statements: YtfpfpopfnbcblaaDoorTotals.lean).
  GIVEN WITH THE SEED: the statements are not yours to turn. If you find one false, say at which input.
  Laid BY PROGRAM, IN A SANDBOX (cutbox-rows.mjs): the forced cells as the released guide's own fill.sh prints them over the translation efa603468024b46f… (all of the seat's roots in one cut). By AI agents, Wed Nov 11 2026. No macro, syntax, notation, axiom, sorry.
-/
import Derived.Test.YtfpfpopfnbcblaaDoorChecked
import GoSem.Claim
import GoSem.ClaimJoined
import GoSem.ClaimMapViews
import Derived.JoinedTies
import Derived.KernelRfl
namespace Go.Proofs.YtfpfpopfnbcblaaDoor
/- THE CELL 'sum', in the pinned program and in every row, IS THE sha256 OF THE DUMP (.gsa) THAT YtfpfpopfnbcblaaDoorProg.lean LOADS. Nothing in Lean hashes anything: it is a label: what it is worth is what the hold of that sum in a sandbox is worth. -/
noncomputable def Tryd.pinned : Pinned := { name := "ytfpfpopfnbcblaadoor", sum := "efa603468024b46f61d5d6c300d426ae875f43caa65b98e1ed2874c87c7210cc", checked := Tryd.checked }
namespace Rows
def none {H : Type} : Left H := { results := [], args := [] }

/- WHAT THE LISTED PACKAGE-LEVEL VARIABLES READ AS WHEN THE CALL BEGINS. Each datum BY PROGRAM (the guide's laid-datum.mjs) off the statement by which the dump's own 'gosem.cut.vars' lays the variable. In a bare row this is a premise. The card (YtfpfpopfnbcblaaDoorCards.lean) ties it to the program's text. -/
def laid_math_bits_deBruijn64tab {H : Type} : DataW H := .agg [.lit (.int .u8 0), .lit (.int .u8 1), .lit (.int .u8 56), .lit (.int .u8 2), .lit (.int .u8 57), .lit (.int .u8 49), .lit (.int .u8 28), .lit (.int .u8 3), .lit (.int .u8 61), .lit (.int .u8 58), .lit (.int .u8 42), .lit (.int .u8 50), .lit (.int .u8 38), .lit (.int .u8 29), .lit (.int .u8 17), .lit (.int .u8 4), .lit (.int .u8 62), .lit (.int .u8 47), .lit (.int .u8 59), .lit (.int .u8 36), .lit (.int .u8 45), .lit (.int .u8 43), .lit (.int .u8 51), .lit (.int .u8 22), .lit (.int .u8 53), .lit (.int .u8 39), .lit (.int .u8 33), .lit (.int .u8 30), .lit (.int .u8 24), .lit (.int .u8 18), .lit (.int .u8 12), .lit (.int .u8 5), .lit (.int .u8 63), .lit (.int .u8 55), .lit (.int .u8 48), .lit (.int .u8 27), .lit (.int .u8 60), .lit (.int .u8 41), .lit (.int .u8 37), .lit (.int .u8 16), .lit (.int .u8 46), .lit (.int .u8 35), .lit (.int .u8 44), .lit (.int .u8 21), .lit (.int .u8 52), .lit (.int .u8 32), .lit (.int .u8 23), .lit (.int .u8 11), .lit (.int .u8 54), .lit (.int .u8 26), .lit (.int .u8 40), .lit (.int .u8 15), .lit (.int .u8 34), .lit (.int .u8 20), .lit (.int .u8 31), .lit (.int .u8 10), .lit (.int .u8 25), .lit (.int .u8 14), .lit (.int .u8 19), .lit (.int .u8 9), .lit (.int .u8 13), .lit (.int .u8 8), .lit (.int .u8 7), .lit (.int .u8 6)]
def laid_geode_word_bounds {H : Type} : DataW H := .agg [.agg [.lit (.int .u64 0), .lit (.int .u64 1)], .agg [.lit (.int .u64 0), .lit (.int .u64 2147483648)], .agg [.lit (.int .u64 1), .lit (.int .u64 1099511627776)], .agg [.lit (.int .u64 0), .lit (.int .u64 1099511627776)], .agg [.lit (.int .u64 0), .lit (.int .u64 1099511627776)], .agg [.lit (.int .u64 1), .lit (.int .u64 1099511627776)]]

/-- 'geodelaw23.MarkMarks': WHATEVER THE INPUT: true; the input reads as it did. -/
def markMarksSpec : ChangeSpec := { name := "markMarks", fn := fun _ => fun
  | [d1, d2, d3] => { results := [.lit (.bool true)], args := [d1, d2, d3] }
  | _ => none }
def markMarksRow : OpenClaim := { program := "ytfpfpopfnbcblaadoor", sum := "efa603468024b46f61d5d6c300d426ae875f43caa65b98e1ed2874c87c7210cc", func := "geode/geodelaw23.MarkMarks", spec := "markMarks", inPlace := ["slices.overlaps[geode/arena.members]"], unfollowed := true, recurses := true, named := ["math/bits.deBruijn64tab", "geode/word.bounds"], apart := false, laid := [("math/bits.deBruijn64tab", laid_math_bits_deBruijn64tab), ("geode/word.bounds", laid_geode_word_bounds)] }
def MarkMarksSaid : Prop := markMarksRow.holds Tryd.pinned (OpenSpec.ofChange markMarksSpec)

/-- ITS FALSE NEIGHBOUR: 'it returns false'. Refute it at one input. -/
def markMarksWrong : ChangeSpec := { name := "markMarks", fn := fun _ => fun
  | [d1, d2, d3] => { results := [.lit (.bool false)], args := [d1, d2, d3] }
  | _ => none }
def MarkMarksWrongFalsely : Prop := markMarksRow.holds Tryd.pinned (OpenSpec.ofChange markMarksWrong)

/-- 'geodelaw23.MarkMore': WHATEVER THE INPUT: true; the input reads as it did. -/
def markMoreSpec : ChangeSpec := { name := "markMore", fn := fun _ => fun
  | [d1, d2, d3] => { results := [.lit (.bool true)], args := [d1, d2, d3] }
  | _ => none }
def markMoreRow : OpenClaim := { program := "ytfpfpopfnbcblaadoor", sum := "efa603468024b46f61d5d6c300d426ae875f43caa65b98e1ed2874c87c7210cc", func := "geode/geodelaw23.MarkMore", spec := "markMore", inPlace := ["slices.overlaps[geode/arena.members]"], unfollowed := true, recurses := true, named := ["math/bits.deBruijn64tab", "geode/word.bounds"], apart := false, laid := [("math/bits.deBruijn64tab", laid_math_bits_deBruijn64tab), ("geode/word.bounds", laid_geode_word_bounds)] }
def MarkMoreSaid : Prop := markMoreRow.holds Tryd.pinned (OpenSpec.ofChange markMoreSpec)

/-- ITS FALSE NEIGHBOUR: 'it returns false'. Refute it at one input. -/
def markMoreWrong : ChangeSpec := { name := "markMore", fn := fun _ => fun
  | [d1, d2, d3] => { results := [.lit (.bool false)], args := [d1, d2, d3] }
  | _ => none }
def MarkMoreWrongFalsely : Prop := markMoreRow.holds Tryd.pinned (OpenSpec.ofChange markMoreWrong)

/-- 'geodelaw23.MarkOrder': WHATEVER THE INPUT: true; the input reads as it did. -/
def markOrderSpec : ChangeSpec := { name := "markOrder", fn := fun _ => fun
  | [d1, d2, d3, d4, d5] => { results := [.lit (.bool true)], args := [d1, d2, d3, d4, d5] }
  | _ => none }
def markOrderRow : OpenClaim := { program := "ytfpfpopfnbcblaadoor", sum := "efa603468024b46f61d5d6c300d426ae875f43caa65b98e1ed2874c87c7210cc", func := "geode/geodelaw23.MarkOrder", spec := "markOrder", inPlace := ["slices.overlaps[geode/arena.members]"], unfollowed := true, recurses := true, named := ["math/bits.deBruijn64tab", "geode/word.bounds"], apart := false, laid := [("math/bits.deBruijn64tab", laid_math_bits_deBruijn64tab), ("geode/word.bounds", laid_geode_word_bounds)] }
def MarkOrderSaid : Prop := markOrderRow.holds Tryd.pinned (OpenSpec.ofChange markOrderSpec)

/-- ITS FALSE NEIGHBOUR: 'it returns false'. Refute it at one input. -/
def markOrderWrong : ChangeSpec := { name := "markOrder", fn := fun _ => fun
  | [d1, d2, d3, d4, d5] => { results := [.lit (.bool false)], args := [d1, d2, d3, d4, d5] }
  | _ => none }
def MarkOrderWrongFalsely : Prop := markOrderRow.holds Tryd.pinned (OpenSpec.ofChange markOrderWrong)

/- THE SECOND FORM. 'bulk': how many values and letters a reading holds, each counted each time it is reached (what is shared counts as often as it is met; a slice's spare places count too). A statement '..UptoSaid' is the law's where the arguments, and the package variables that the reading takes, are together of bulk at most 1048576: NARROWER than '..Said'. Prove '..Said' where nothing that the law and all that it calls make is longer than what came in: it says more and counts as full. Else prove '..UptoSaid'. A law counts once. -/
mutual
def uptoBulk {H : Type} : DataW H → Nat
  | .lit (.string bytes) => bytes.length + 1
  | .lit _ => 1
  | .nil => 1
  | .ptr d => uptoBulk d + 1
  | .slice elems spare => uptoBulkAll elems + uptoBulkAll spare + 1
  | .agg parts => uptoBulkAll parts + 1
  | .iface _ d => uptoBulk d + 1
  | .map entries => uptoBulkEntries entries + 1
  | .held _ => 1
def uptoBulkAll {H : Type} : List (DataW H) → Nat
  | [] => 0
  | d :: r => uptoBulk d + uptoBulkAll r
def uptoBulkEntries {H : Type} : List (Lit × DataW H) → Nat
  | [] => 0
  | x :: r => uptoBulkEntry x + uptoBulkEntries r
def uptoBulkEntry {H : Type} : Lit × DataW H → Nat
  | (.string bytes, d) => bytes.length + uptoBulk d + 1
  | (_, d) => uptoBulk d + 1
 end
def uptoSmall : (H : Type) → List (DataW H) → Bool := fun _ ds => decide (uptoBulkAll ds ≤ 1048576)
def OpenSpec.upto (s : _root_.Go.ChangeSpec) : _root_.Go.OpenSpec := { _root_.Go.OpenSpec.ofChange s with cond := some uptoSmall }

/-- 'geodelaw23.MarkMarks', WHERE WHAT IT READS IS OF BULK AT MOST 1048576: true; the input reads as it did. -/
def markMarksUptoRow : OpenClaim := { program := "ytfpfpopfnbcblaadoor", sum := "efa603468024b46f61d5d6c300d426ae875f43caa65b98e1ed2874c87c7210cc", func := "geode/geodelaw23.MarkMarks", spec := "markMarks", inPlace := ["slices.overlaps[geode/arena.members]"], unfollowed := true, recurses := true, named := ["math/bits.deBruijn64tab", "geode/word.bounds"], apart := false, laid := [("math/bits.deBruijn64tab", laid_math_bits_deBruijn64tab), ("geode/word.bounds", laid_geode_word_bounds)], narrowed := true }
def MarkMarksUptoSaid : Prop := markMarksUptoRow.holds Tryd.pinned (OpenSpec.upto markMarksSpec)

/-- 'geodelaw23.MarkMore', WHERE WHAT IT READS IS OF BULK AT MOST 1048576: true; the input reads as it did. -/
def markMoreUptoRow : OpenClaim := { program := "ytfpfpopfnbcblaadoor", sum := "efa603468024b46f61d5d6c300d426ae875f43caa65b98e1ed2874c87c7210cc", func := "geode/geodelaw23.MarkMore", spec := "markMore", inPlace := ["slices.overlaps[geode/arena.members]"], unfollowed := true, recurses := true, named := ["math/bits.deBruijn64tab", "geode/word.bounds"], apart := false, laid := [("math/bits.deBruijn64tab", laid_math_bits_deBruijn64tab), ("geode/word.bounds", laid_geode_word_bounds)], narrowed := true }
def MarkMoreUptoSaid : Prop := markMoreUptoRow.holds Tryd.pinned (OpenSpec.upto markMoreSpec)

/-- 'geodelaw23.MarkOrder', WHERE WHAT IT READS IS OF BULK AT MOST 1048576: true; the input reads as it did. -/
def markOrderUptoRow : OpenClaim := { program := "ytfpfpopfnbcblaadoor", sum := "efa603468024b46f61d5d6c300d426ae875f43caa65b98e1ed2874c87c7210cc", func := "geode/geodelaw23.MarkOrder", spec := "markOrder", inPlace := ["slices.overlaps[geode/arena.members]"], unfollowed := true, recurses := true, named := ["math/bits.deBruijn64tab", "geode/word.bounds"], apart := false, laid := [("math/bits.deBruijn64tab", laid_math_bits_deBruijn64tab), ("geode/word.bounds", laid_geode_word_bounds)], narrowed := true }
def MarkOrderUptoSaid : Prop := markOrderUptoRow.holds Tryd.pinned (OpenSpec.upto markOrderSpec)

end Rows
end Go.Proofs.YtfpfpopfnbcblaaDoor
