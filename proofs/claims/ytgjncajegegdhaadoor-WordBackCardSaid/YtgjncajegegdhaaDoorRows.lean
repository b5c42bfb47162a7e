/-
  NARROWER THAN 'FOR EVERY INPUT', by the rows' own cells (each row's printed sentence says how): WordRefs: laid · WordApart: laid · WordBack: laid · WordValues: laid.
  DERIVED. THE GIVEN ROWS OF THIS SEAT. 4 by the template 'for every input the law returns true; each argument reads behind the call as it read before'; 0 by the template 'total and deterministic' (their statements: YtgjncajegegdhaaDoorTotals.lean).
  GIVEN WITH THE SEED: the statements are not yours to turn. If you find one false, say at which input.
  Laid BY PROGRAM, IN A SANDBOX (cutbox-rows.mjs): the forced cells as the released guide's own fill.sh prints them over the translation 00f6ecc23533000c… (all of the seat's roots in one cut). By AI agents, Wed Nov 11 2026. No macro, syntax, notation, axiom, sorry.
-/
import Derived.Test.YtgjncajegegdhaaDoorChecked
import GoSem.Claim
import GoSem.ClaimJoined
import GoSem.ClaimMapViews
import Derived.JoinedTies
import Derived.KernelRfl
namespace Go.Proofs.YtgjncajegegdhaaDoor
/- THE CELL 'sum', in the pinned program and in every row, IS THE sha256 OF THE DUMP (.gsa) THAT YtgjncajegegdhaaDoorProg.lean LOADS. Nothing in Lean hashes anything: it is a label: what it is worth is what the hold of that sum in a sandbox is worth. -/
noncomputable def Tryd.pinned : Pinned := { name := "ytgjncajegegdhaadoor", sum := "00f6ecc23533000c8d96d402ab8da64ffc1880b7438bb712965f4353c9b9bff4", checked := Tryd.checked }
namespace Rows
def none {H : Type} : Left H := { results := [], args := [] }

/- WHAT THE LISTED PACKAGE-LEVEL VARIABLES READ AS WHEN THE CALL BEGINS. Each datum BY PROGRAM (the guide's laid-datum.mjs) off the statement by which the dump's own 'gosem.cut.vars' lays the variable. In a bare row this is a premise. The card (YtgjncajegegdhaaDoorCards.lean) ties it to the program's text. -/
def laid_geode_word_bounds {H : Type} : DataW H := .agg [.agg [.lit (.int .u64 0), .lit (.int .u64 1)], .agg [.lit (.int .u64 0), .lit (.int .u64 2147483648)], .agg [.lit (.int .u64 1), .lit (.int .u64 1099511627776)], .agg [.lit (.int .u64 0), .lit (.int .u64 1099511627776)], .agg [.lit (.int .u64 0), .lit (.int .u64 1099511627776)], .agg [.lit (.int .u64 1), .lit (.int .u64 1099511627776)]]

/-- 'geodelaw21.WordRefs': WHATEVER THE INPUT: true; the input reads as it did. -/
def wordRefsSpec : ChangeSpec := { name := "wordRefs", fn := fun _ => fun
  | [d1, d2, d3, d4] => { results := [.lit (.bool true)], args := [d1, d2, d3, d4] }
  | _ => none }
def wordRefsRow : OpenClaim := { program := "ytgjncajegegdhaadoor", sum := "00f6ecc23533000c8d96d402ab8da64ffc1880b7438bb712965f4353c9b9bff4", func := "geode/geodelaw21.WordRefs", spec := "wordRefs", named := ["geode/word.bounds"], apart := false, laid := [("geode/word.bounds", laid_geode_word_bounds)] }
def WordRefsSaid : Prop := wordRefsRow.holds Tryd.pinned (OpenSpec.ofChange wordRefsSpec)

/-- ITS FALSE NEIGHBOUR: 'it returns false'. Refute it at one input. -/
def wordRefsWrong : ChangeSpec := { name := "wordRefs", fn := fun _ => fun
  | [d1, d2, d3, d4] => { results := [.lit (.bool false)], args := [d1, d2, d3, d4] }
  | _ => none }
def WordRefsWrongFalsely : Prop := wordRefsRow.holds Tryd.pinned (OpenSpec.ofChange wordRefsWrong)

/-- 'geodelaw21.WordApart': WHATEVER THE INPUT: true; the input reads as it did. -/
def wordApartSpec : ChangeSpec := { name := "wordApart", fn := fun _ => fun
  | [d1, d2, d3, d4] => { results := [.lit (.bool true)], args := [d1, d2, d3, d4] }
  | _ => none }
def wordApartRow : OpenClaim := { program := "ytgjncajegegdhaadoor", sum := "00f6ecc23533000c8d96d402ab8da64ffc1880b7438bb712965f4353c9b9bff4", func := "geode/geodelaw21.WordApart", spec := "wordApart", named := ["geode/word.bounds"], apart := false, laid := [("geode/word.bounds", laid_geode_word_bounds)] }
def WordApartSaid : Prop := wordApartRow.holds Tryd.pinned (OpenSpec.ofChange wordApartSpec)

/-- ITS FALSE NEIGHBOUR: 'it returns false'. Refute it at one input. -/
def wordApartWrong : ChangeSpec := { name := "wordApart", fn := fun _ => fun
  | [d1, d2, d3, d4] => { results := [.lit (.bool false)], args := [d1, d2, d3, d4] }
  | _ => none }
def WordApartWrongFalsely : Prop := wordApartRow.holds Tryd.pinned (OpenSpec.ofChange wordApartWrong)

/-- 'geodelaw21.WordBack': WHATEVER THE INPUT: true; the input reads as it did. -/
def wordBackSpec : ChangeSpec := { name := "wordBack", fn := fun _ => fun
  | [d1, d2, d3, d4, d5] => { results := [.lit (.bool true)], args := [d1, d2, d3, d4, d5] }
  | _ => none }
def wordBackRow : OpenClaim := { program := "ytgjncajegegdhaadoor", sum := "00f6ecc23533000c8d96d402ab8da64ffc1880b7438bb712965f4353c9b9bff4", func := "geode/geodelaw21.WordBack", spec := "wordBack", named := ["geode/word.bounds"], apart := false, laid := [("geode/word.bounds", laid_geode_word_bounds)] }
def WordBackSaid : Prop := wordBackRow.holds Tryd.pinned (OpenSpec.ofChange wordBackSpec)

/-- ITS FALSE NEIGHBOUR: 'it returns false'. Refute it at one input. -/
def wordBackWrong : ChangeSpec := { name := "wordBack", fn := fun _ => fun
  | [d1, d2, d3, d4, d5] => { results := [.lit (.bool false)], args := [d1, d2, d3, d4, d5] }
  | _ => none }
def WordBackWrongFalsely : Prop := wordBackRow.holds Tryd.pinned (OpenSpec.ofChange wordBackWrong)

/-- 'geodelaw21.WordValues': WHATEVER THE INPUT: true; the input reads as it did. -/
def wordValuesSpec : ChangeSpec := { name := "wordValues", fn := fun _ => fun
  | [d1, d2, d3, d4] => { results := [.lit (.bool true)], args := [d1, d2, d3, d4] }
  | _ => none }
def wordValuesRow : OpenClaim := { program := "ytgjncajegegdhaadoor", sum := "00f6ecc23533000c8d96d402ab8da64ffc1880b7438bb712965f4353c9b9bff4", func := "geode/geodelaw21.WordValues", spec := "wordValues", named := ["geode/word.bounds"], apart := false, laid := [("geode/word.bounds", laid_geode_word_bounds)] }
def WordValuesSaid : Prop := wordValuesRow.holds Tryd.pinned (OpenSpec.ofChange wordValuesSpec)

/-- ITS FALSE NEIGHBOUR: 'it returns false'. Refute it at one input. -/
def wordValuesWrong : ChangeSpec := { name := "wordValues", fn := fun _ => fun
  | [d1, d2, d3, d4] => { results := [.lit (.bool false)], args := [d1, d2, d3, d4] }
  | _ => none }
def WordValuesWrongFalsely : Prop := wordValuesRow.holds Tryd.pinned (OpenSpec.ofChange wordValuesWrong)

/- THE SECOND FORM. 'bulk': how many values and letters a reading holds, each counted each time it is reached (what is shared counts as often as it is met; a slice's spare places count too). A statement '..UptoSaid' is the law's where the arguments, and the package variables that the reading takes, are together of bulk at most 1048576: NARROWER than '..Said'. Prove '..Said' where nothing that the law and all that it calls make is longer than what came in: it says more and counts as full. Else prove '..UptoSaid'. A law counts once. -/
mutual
def uptoBulk {H : Type} : DataW H → Nat
  | .lit (.string bytes) => bytes.length + 1
  | .lit _ => 1
  | .nil => 1
  | .ptr d => uptoBulk d + 1
  | .slice elems spare => uptoBulkAll elems + uptoBulkAll spare + 1
  | .agg parts => uptoBulkAll parts + 1
  | .iface _ d => uptoBulk d + 1
  | .map entries => uptoBulkEntries entries + 1
  | .held _ => 1
def uptoBulkAll {H : Type} : List (DataW H) → Nat
  | [] => 0
  | d :: r => uptoBulk d + uptoBulkAll r
def uptoBulkEntries {H : Type} : List (Lit × DataW H) → Nat
  | [] => 0
  | x :: r => uptoBulkEntry x + uptoBulkEntries r
def uptoBulkEntry {H : Type} : Lit × DataW H → Nat
  | (.string bytes, d) => bytes.length + uptoBulk d + 1
  | (_, d) => uptoBulk d + 1
 end
def uptoSmall : (H : Type) → List (DataW H) → Bool := fun _ ds => decide (uptoBulkAll ds ≤ 1048576)
def OpenSpec.upto (s : _root_.Go.ChangeSpec) : _root_.Go.OpenSpec := { _root_.Go.OpenSpec.ofChange s with cond := some uptoSmall }

/-- 'geodelaw21.WordRefs', WHERE WHAT IT READS IS OF BULK AT MOST 1048576: true; the input reads as it did. -/
def wordRefsUptoRow : OpenClaim := { program := "ytgjncajegegdhaadoor", sum := "00f6ecc23533000c8d96d402ab8da64ffc1880b7438bb712965f4353c9b9bff4", func := "geode/geodelaw21.WordRefs", spec := "wordRefs", named := ["geode/word.bounds"], apart := false, laid := [("geode/word.bounds", laid_geode_word_bounds)], narrowed := true }
def WordRefsUptoSaid : Prop := wordRefsUptoRow.holds Tryd.pinned (OpenSpec.upto wordRefsSpec)

/-- 'geodelaw21.WordApart', WHERE WHAT IT READS IS OF BULK AT MOST 1048576: true; the input reads as it did. -/
def wordApartUptoRow : OpenClaim := { program := "ytgjncajegegdhaadoor", sum := "00f6ecc23533000c8d96d402ab8da64ffc1880b7438bb712965f4353c9b9bff4", func := "geode/geodelaw21.WordApart", spec := "wordApart", named := ["geode/word.bounds"], apart := false, laid := [("geode/word.bounds", laid_geode_word_bounds)], narrowed := true }
def WordApartUptoSaid : Prop := wordApartUptoRow.holds Tryd.pinned (OpenSpec.upto wordApartSpec)

/-- 'geodelaw21.WordBack', WHERE WHAT IT READS IS OF BULK AT MOST 1048576: true; the input reads as it did. -/
def wordBackUptoRow : OpenClaim := { program := "ytgjncajegegdhaadoor", sum := "00f6ecc23533000c8d96d402ab8da64ffc1880b7438bb712965f4353c9b9bff4", func := "geode/geodelaw21.WordBack", spec := "wordBack", named := ["geode/word.bounds"], apart := false, laid := [("geode/word.bounds", laid_geode_word_bounds)], narrowed := true }
def WordBackUptoSaid : Prop := wordBackUptoRow.holds Tryd.pinned (OpenSpec.upto wordBackSpec)

/-- 'geodelaw21.WordValues', WHERE WHAT IT READS IS OF BULK AT MOST 1048576: true; the input reads as it did. -/
def wordValuesUptoRow : OpenClaim := { program := "ytgjncajegegdhaadoor", sum := "00f6ecc23533000c8d96d402ab8da64ffc1880b7438bb712965f4353c9b9bff4", func := "geode/geodelaw21.WordValues", spec := "wordValues", named := ["geode/word.bounds"], apart := false, laid := [("geode/word.bounds", laid_geode_word_bounds)], narrowed := true }
def WordValuesUptoSaid : Prop := wordValuesUptoRow.holds Tryd.pinned (OpenSpec.upto wordValuesSpec)

end Rows
end Go.Proofs.YtgjncajegegdhaaDoor
