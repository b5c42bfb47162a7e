/-
  NARROWER THAN 'FOR EVERY INPUT', by the rows' own cells (each row's printed sentence says how): OpsFind: laid · OpsAll: laid · OpsApart: laid · OpsLoads: laid.
  DERIVED. THE GIVEN ROWS OF THIS SEAT. 4 by the template 'for every input the law returns true; each argument reads behind the call as it read before'; 0 by the template 'total and deterministic' (their statements: YtfjjecffeeffcaaDoorTotals.lean).
  GIVEN WITH THE SEED: the statements are not yours to turn. If you find one false, say at which input.
  Laid BY PROGRAM, IN A SANDBOX (cutbox-rows.mjs): the forced cells as the released guide's own fill.sh prints them over the translation ef08bf307dd9858f… (all of the seat's roots in one cut). By AI agents, Wed Nov 11 2026. No macro, syntax, notation, axiom, sorry.
-/
import Derived.Test.YtfjjecffeeffcaaDoorChecked
import GoSem.PinnedTables
import GoSem.Claim
import GoSem.ClaimJoined
import GoSem.ClaimMapViews
import Derived.JoinedTies
import Derived.KernelRfl
namespace Go.Proofs.YtfjjecffeeffcaaDoor
/- THE CELL 'sum', in the pinned program and in every row, IS THE sha256 OF THE DUMP (.gsa) THAT YtfjjecffeeffcaaDoorProg.lean LOADS. Nothing in Lean hashes anything: it is a label: what it is worth is what the hold of that sum in a sandbox is worth. -/
noncomputable def Tryd.pinned : Pinned := { name := "ytfjjecffeeffcaadoor", sum := "ef08bf307dd9858f657e4ed2f29f46073236c7ced5a02d4a56465ce20102955c", checked := Tryd.checked }
namespace Rows
def none {H : Type} : Left H := { results := [], args := [] }

/- WHAT THE LISTED PACKAGE-LEVEL VARIABLES READ AS WHEN THE CALL BEGINS. Each datum BY PROGRAM (the guide's laid-datum.mjs) off the statement by which the dump's own 'gosem.cut.vars' lays the variable. In a bare row this is a premise. The card (YtfjjecffeeffcaaDoorCards.lean) ties it to the program's text. -/
def laid_unicode_utf8_acceptRanges {H : Type} : DataW H := .agg [.agg [.lit (.int .u8 128), .lit (.int .u8 191)], .agg [.lit (.int .u8 160), .lit (.int .u8 191)], .agg [.lit (.int .u8 128), .lit (.int .u8 159)], .agg [.lit (.int .u8 144), .lit (.int .u8 191)], .agg [.lit (.int .u8 128), .lit (.int .u8 143)], .agg [.lit (.int .u8 0), .lit (.int .u8 0)], .agg [.lit (.int .u8 0), .lit (.int .u8 0)], .agg [.lit (.int .u8 0), .lit (.int .u8 0)], .agg [.lit (.int .u8 0), .lit (.int .u8 0)], .agg [.lit (.int .u8 0), .lit (.int .u8 0)], .agg [.lit (.int .u8 0), .lit (.int .u8 0)], .agg [.lit (.int .u8 0), .lit (.int .u8 0)], .agg [.lit (.int .u8 0), .lit (.int .u8 0)], .agg [.lit (.int .u8 0), .lit (.int .u8 0)], .agg [.lit (.int .u8 0), .lit (.int .u8 0)], .agg [.lit (.int .u8 0), .lit (.int .u8 0)]]
def laid_geode_ops_runs {H : Type} : DataW H := .agg [.agg [.lit (.int .i64 0), .lit (.string [46, 46, 98, 98, 98, 46])], .agg [.lit (.int .i64 8), .lit (.string [105])], .agg [.lit (.int .i64 10), .lit (.string [46, 46, 108, 108, 116, 46, 105, 50, 105, 50, 105, 105])], .agg [.lit (.int .i64 26), .lit (.string [46, 46, 118])], .agg [.lit (.int .i64 31), .lit (.string [121, 105, 105, 105, 105, 105, 105, 105])], .agg [.lit (.int .i64 40), .lit (.string [109, 109])], .agg [.lit (.int .i64 44), .lit (.string [109, 109, 109, 109, 109, 109, 109, 109, 109, 109, 109, 109])], .agg [.lit (.int .i64 58), .lit (.string [109, 109, 109, 109, 109, 105, 105, 51, 54])], .agg [.lit (.int .i64 69), .lit (.string [46, 46, 46, 46, 46, 46, 46, 46, 46, 46, 46, 46, 46, 46, 46, 46, 46, 46, 46, 46, 46, 46])], .agg [.lit (.int .i64 103), .lit (.string [46, 46, 46, 46, 46, 46, 46, 46, 46, 46, 46, 46, 46, 46, 46, 46, 46, 46, 46, 46, 46, 46, 46, 46, 46, 46, 46, 46, 46, 46, 46, 46, 46, 46, 46, 46])], .agg [.lit (.int .i64 167), .lit (.string [46])], .agg [.lit (.int .i64 172), .lit (.string [46, 46])], .agg [.lit (.int .i64 192), .lit (.string [46, 46, 46, 46, 46])], .agg [.lit (.int .i64 208), .lit (.string [104, 46, 105, 46, 46, 108, 108])], .agg [.lit (.int .i64 64256), .lit (.string [105, 105, 50, 50, 50, 50, 105, 105, 50, 50, 50, 105, 105, 105, 105, 46, 105, 50, 50, 50, 104, 104, 104, 104, 99, 99, 46, 46, 46, 46, 46])], .agg [.lit (.int .i64 64520), .lit (.string [50, 105, 50, 105, 50, 105, 50, 105, 105, 105])]]
def laid_geode_ops_known {H : Type} : DataW H := .agg [.agg [.lit (.int .i64 42), .lit (.int .i64 43)], .agg [.lit (.int .i64 56), .lit (.int .i64 57)], .agg [.lit (.int .i64 67), .lit (.int .i64 68)], .agg [.lit (.int .i64 91), .lit (.int .i64 102)], .agg [.lit (.int .i64 139), .lit (.int .i64 166)], .agg [.lit (.int .i64 168), .lit (.int .i64 171)], .agg [.lit (.int .i64 174), .lit (.int .i64 191)], .agg [.lit (.int .i64 64512), .lit (.int .i64 64519)], .agg [.lit (.int .i64 253), .lit (.int .i64 253)]]
def laid_geode_ops_reaches {H : Type} : DataW H := .agg [.agg [.lit (.int .i64 40), .lit (.string [52, 56])], .agg [.lit (.int .i64 44), .lit (.string [49, 49, 50, 50, 49, 49, 50, 50, 52, 52, 52, 56])], .agg [.lit (.int .i64 58), .lit (.string [49, 50, 49, 50, 52])]]
/-- One of Go's own tables, pinned by name: the form's constant. -/
def laid_unicode_utf8_first : DataW Unit := Go.Pinned.utf8First

/-- 'geodelaw05.OpsFind': WHATEVER THE INPUT: true; the input reads as it did. -/
def opsFindSpec : ChangeSpec := { name := "opsFind", fn := fun _ => fun
  | [d] => { results := [.lit (.bool true)], args := [d] }
  | _ => none }
def opsFindRow : OpenClaim := { program := "ytfjjecffeeffcaadoor", sum := "ef08bf307dd9858f657e4ed2f29f46073236c7ced5a02d4a56465ce20102955c", func := "geode/geodelaw05.OpsFind", spec := "opsFind", inPlace := ["internal/bytealg.IndexByteString", "internal/bytealg.IndexString", "internal/bytealg.CountString"], unfollowed := true, recurses := true, named := ["geode/ops.runs", "unicode/utf8.first", "unicode/utf8.acceptRanges", "internal/bytealg.MaxLen", "geode/ops.known", "geode/ops.reaches"], apart := false, laid := [("unicode/utf8.acceptRanges", laid_unicode_utf8_acceptRanges), ("geode/ops.runs", laid_geode_ops_runs), ("geode/ops.known", laid_geode_ops_known), ("geode/ops.reaches", laid_geode_ops_reaches), ("unicode/utf8.first", laid_unicode_utf8_first)] }
def OpsFindSaid : Prop := opsFindRow.holds Tryd.pinned (OpenSpec.ofChange opsFindSpec)

/-- ITS FALSE NEIGHBOUR: 'it returns false'. Refute it at one input. -/
def opsFindWrong : ChangeSpec := { name := "opsFind", fn := fun _ => fun
  | [d] => { results := [.lit (.bool false)], args := [d] }
  | _ => none }
def OpsFindWrongFalsely : Prop := opsFindRow.holds Tryd.pinned (OpenSpec.ofChange opsFindWrong)

/-- 'geodelaw05.OpsAll': WHATEVER THE INPUT: true; the input reads as it did. -/
def opsAllSpec : ChangeSpec := { name := "opsAll", fn := fun _ => fun
  | [] => { results := [.lit (.bool true)], args := [] }
  | _ => none }
def opsAllRow : OpenClaim := { program := "ytfjjecffeeffcaadoor", sum := "ef08bf307dd9858f657e4ed2f29f46073236c7ced5a02d4a56465ce20102955c", func := "geode/geodelaw05.OpsAll", spec := "opsAll", inPlace := ["internal/bytealg.IndexByteString", "internal/bytealg.IndexString", "internal/bytealg.CountString"], unfollowed := true, recurses := true, named := ["geode/ops.runs", "unicode/utf8.first", "unicode/utf8.acceptRanges", "internal/bytealg.MaxLen", "geode/ops.known", "geode/ops.reaches"], apart := false, laid := [("unicode/utf8.acceptRanges", laid_unicode_utf8_acceptRanges), ("geode/ops.runs", laid_geode_ops_runs), ("geode/ops.known", laid_geode_ops_known), ("geode/ops.reaches", laid_geode_ops_reaches), ("unicode/utf8.first", laid_unicode_utf8_first)] }
def OpsAllSaid : Prop := opsAllRow.holds Tryd.pinned (OpenSpec.ofChange opsAllSpec)

/-- ITS FALSE NEIGHBOUR: 'it returns false'. Refute it at one input. -/
def opsAllWrong : ChangeSpec := { name := "opsAll", fn := fun _ => fun
  | [] => { results := [.lit (.bool false)], args := [] }
  | _ => none }
def OpsAllWrongFalsely : Prop := opsAllRow.holds Tryd.pinned (OpenSpec.ofChange opsAllWrong)

/-- 'geodelaw05.OpsApart': WHATEVER THE INPUT: true; the input reads as it did. -/
def opsApartSpec : ChangeSpec := { name := "opsApart", fn := fun _ => fun
  | [d1, d2] => { results := [.lit (.bool true)], args := [d1, d2] }
  | _ => none }
def opsApartRow : OpenClaim := { program := "ytfjjecffeeffcaadoor", sum := "ef08bf307dd9858f657e4ed2f29f46073236c7ced5a02d4a56465ce20102955c", func := "geode/geodelaw05.OpsApart", spec := "opsApart", inPlace := ["internal/bytealg.IndexByteString", "internal/bytealg.IndexString", "internal/bytealg.CountString"], unfollowed := true, recurses := true, named := ["geode/ops.runs", "unicode/utf8.first", "unicode/utf8.acceptRanges", "internal/bytealg.MaxLen", "geode/ops.known", "geode/ops.reaches"], apart := false, laid := [("unicode/utf8.acceptRanges", laid_unicode_utf8_acceptRanges), ("geode/ops.runs", laid_geode_ops_runs), ("geode/ops.known", laid_geode_ops_known), ("geode/ops.reaches", laid_geode_ops_reaches), ("unicode/utf8.first", laid_unicode_utf8_first)] }
def OpsApartSaid : Prop := opsApartRow.holds Tryd.pinned (OpenSpec.ofChange opsApartSpec)

/-- ITS FALSE NEIGHBOUR: 'it returns false'. Refute it at one input. -/
def opsApartWrong : ChangeSpec := { name := "opsApart", fn := fun _ => fun
  | [d1, d2] => { results := [.lit (.bool false)], args := [d1, d2] }
  | _ => none }
def OpsApartWrongFalsely : Prop := opsApartRow.holds Tryd.pinned (OpenSpec.ofChange opsApartWrong)

/-- 'geodelaw05.OpsLoads': WHATEVER THE INPUT: true; the input reads as it did. -/
def opsLoadsSpec : ChangeSpec := { name := "opsLoads", fn := fun _ => fun
  | [d1, d2] => { results := [.lit (.bool true)], args := [d1, d2] }
  | _ => none }
def opsLoadsRow : OpenClaim := { program := "ytfjjecffeeffcaadoor", sum := "ef08bf307dd9858f657e4ed2f29f46073236c7ced5a02d4a56465ce20102955c", func := "geode/geodelaw05.OpsLoads", spec := "opsLoads", inPlace := ["internal/bytealg.IndexByteString", "internal/bytealg.IndexString", "internal/bytealg.CountString"], unfollowed := true, recurses := true, named := ["geode/ops.runs", "unicode/utf8.first", "unicode/utf8.acceptRanges", "internal/bytealg.MaxLen", "geode/ops.reaches", "geode/ops.known"], apart := false, laid := [("unicode/utf8.acceptRanges", laid_unicode_utf8_acceptRanges), ("geode/ops.runs", laid_geode_ops_runs), ("geode/ops.known", laid_geode_ops_known), ("geode/ops.reaches", laid_geode_ops_reaches), ("unicode/utf8.first", laid_unicode_utf8_first)] }
def OpsLoadsSaid : Prop := opsLoadsRow.holds Tryd.pinned (OpenSpec.ofChange opsLoadsSpec)

/-- ITS FALSE NEIGHBOUR: 'it returns false'. Refute it at one input. -/
def opsLoadsWrong : ChangeSpec := { name := "opsLoads", fn := fun _ => fun
  | [d1, d2] => { results := [.lit (.bool false)], args := [d1, d2] }
  | _ => none }
def OpsLoadsWrongFalsely : Prop := opsLoadsRow.holds Tryd.pinned (OpenSpec.ofChange opsLoadsWrong)

/- THE SECOND FORM. 'bulk': how many values and letters a reading holds, each counted each time it is reached (what is shared counts as often as it is met; a slice's spare places count too). A statement '..UptoSaid' is the law's where the arguments, and the package variables that the reading takes, are together of bulk at most 1048576: NARROWER than '..Said'. Prove '..Said' where nothing that the law and all that it calls make is longer than what came in: it says more and counts as full. Else prove '..UptoSaid'. A law counts once. -/
mutual
def uptoBulk {H : Type} : DataW H → Nat
  | .lit (.string bytes) => bytes.length + 1
  | .lit _ => 1
  | .nil => 1
  | .ptr d => uptoBulk d + 1
  | .slice elems spare => uptoBulkAll elems + uptoBulkAll spare + 1
  | .agg parts => uptoBulkAll parts + 1
  | .iface _ d => uptoBulk d + 1
  | .map entries => uptoBulkEntries entries + 1
  | .held _ => 1
def uptoBulkAll {H : Type} : List (DataW H) → Nat
  | [] => 0
  | d :: r => uptoBulk d + uptoBulkAll r
def uptoBulkEntries {H : Type} : List (Lit × DataW H) → Nat
  | [] => 0
  | x :: r => uptoBulkEntry x + uptoBulkEntries r
def uptoBulkEntry {H : Type} : Lit × DataW H → Nat
  | (.string bytes, d) => bytes.length + uptoBulk d + 1
  | (_, d) => uptoBulk d + 1
 end
def uptoSmall : (H : Type) → List (DataW H) → Bool := fun _ ds => decide (uptoBulkAll ds ≤ 1048576)
def OpenSpec.upto (s : _root_.Go.ChangeSpec) : _root_.Go.OpenSpec := { _root_.Go.OpenSpec.ofChange s with cond := some uptoSmall }

/-- 'geodelaw05.OpsFind', WHERE WHAT IT READS IS OF BULK AT MOST 1048576: true; the input reads as it did. -/
def opsFindUptoRow : OpenClaim := { program := "ytfjjecffeeffcaadoor", sum := "ef08bf307dd9858f657e4ed2f29f46073236c7ced5a02d4a56465ce20102955c", func := "geode/geodelaw05.OpsFind", spec := "opsFind", inPlace := ["internal/bytealg.IndexByteString", "internal/bytealg.IndexString", "internal/bytealg.CountString"], unfollowed := true, recurses := true, named := ["geode/ops.runs", "unicode/utf8.first", "unicode/utf8.acceptRanges", "internal/bytealg.MaxLen", "geode/ops.known", "geode/ops.reaches"], apart := false, laid := [("unicode/utf8.acceptRanges", laid_unicode_utf8_acceptRanges), ("geode/ops.runs", laid_geode_ops_runs), ("geode/ops.known", laid_geode_ops_known), ("geode/ops.reaches", laid_geode_ops_reaches), ("unicode/utf8.first", laid_unicode_utf8_first)], narrowed := true }
def OpsFindUptoSaid : Prop := opsFindUptoRow.holds Tryd.pinned (OpenSpec.upto opsFindSpec)

/-- 'geodelaw05.OpsAll', WHERE WHAT IT READS IS OF BULK AT MOST 1048576: true; the input reads as it did. -/
def opsAllUptoRow : OpenClaim := { program := "ytfjjecffeeffcaadoor", sum := "ef08bf307dd9858f657e4ed2f29f46073236c7ced5a02d4a56465ce20102955c", func := "geode/geodelaw05.OpsAll", spec := "opsAll", inPlace := ["internal/bytealg.IndexByteString", "internal/bytealg.IndexString", "internal/bytealg.CountString"], unfollowed := true, recurses := true, named := ["geode/ops.runs", "unicode/utf8.first", "unicode/utf8.acceptRanges", "internal/bytealg.MaxLen", "geode/ops.known", "geode/ops.reaches"], apart := false, laid := [("unicode/utf8.acceptRanges", laid_unicode_utf8_acceptRanges), ("geode/ops.runs", laid_geode_ops_runs), ("geode/ops.known", laid_geode_ops_known), ("geode/ops.reaches", laid_geode_ops_reaches), ("unicode/utf8.first", laid_unicode_utf8_first)], narrowed := true }
def OpsAllUptoSaid : Prop := opsAllUptoRow.holds Tryd.pinned (OpenSpec.upto opsAllSpec)

/-- 'geodelaw05.OpsApart', WHERE WHAT IT READS IS OF BULK AT MOST 1048576: true; the input reads as it did. -/
def opsApartUptoRow : OpenClaim := { program := "ytfjjecffeeffcaadoor", sum := "ef08bf307dd9858f657e4ed2f29f46073236c7ced5a02d4a56465ce20102955c", func := "geode/geodelaw05.OpsApart", spec := "opsApart", inPlace := ["internal/bytealg.IndexByteString", "internal/bytealg.IndexString", "internal/bytealg.CountString"], unfollowed := true, recurses := true, named := ["geode/ops.runs", "unicode/utf8.first", "unicode/utf8.acceptRanges", "internal/bytealg.MaxLen", "geode/ops.known", "geode/ops.reaches"], apart := false, laid := [("unicode/utf8.acceptRanges", laid_unicode_utf8_acceptRanges), ("geode/ops.runs", laid_geode_ops_runs), ("geode/ops.known", laid_geode_ops_known), ("geode/ops.reaches", laid_geode_ops_reaches), ("unicode/utf8.first", laid_unicode_utf8_first)], narrowed := true }
def OpsApartUptoSaid : Prop := opsApartUptoRow.holds Tryd.pinned (OpenSpec.upto opsApartSpec)

/-- 'geodelaw05.OpsLoads', WHERE WHAT IT READS IS OF BULK AT MOST 1048576: true; the input reads as it did. -/
def opsLoadsUptoRow : OpenClaim := { program := "ytfjjecffeeffcaadoor", sum := "ef08bf307dd9858f657e4ed2f29f46073236c7ced5a02d4a56465ce20102955c", func := "geode/geodelaw05.OpsLoads", spec := "opsLoads", inPlace := ["internal/bytealg.IndexByteString", "internal/bytealg.IndexString", "internal/bytealg.CountString"], unfollowed := true, recurses := true, named := ["geode/ops.runs", "unicode/utf8.first", "unicode/utf8.acceptRanges", "internal/bytealg.MaxLen", "geode/ops.reaches", "geode/ops.known"], apart := false, laid := [("unicode/utf8.acceptRanges", laid_unicode_utf8_acceptRanges), ("geode/ops.runs", laid_geode_ops_runs), ("geode/ops.known", laid_geode_ops_known), ("geode/ops.reaches", laid_geode_ops_reaches), ("unicode/utf8.first", laid_unicode_utf8_first)], narrowed := true }
def OpsLoadsUptoSaid : Prop := opsLoadsUptoRow.holds Tryd.pinned (OpenSpec.upto opsLoadsSpec)

end Rows
end Go.Proofs.YtfjjecffeeffcaaDoor
