/-
  NARROWER THAN 'FOR EVERY INPUT', by the rows' own cells (each row's printed sentence says how): CodePuts: laid · CodeBack: laid · CodeApart: laid · CodeGets: laid · BufferNil: laid · DocPuts: loops, laid · DocGets: laid · EventPuts: laid · EventMarks: laid · EventBack: laid · SchemaCodes: laid · SchemaBack: laid · SchemaForest: laid · SchemaMay: laid.
  DERIVED. THE GIVEN ROWS OF THIS SEAT. 14 by the template 'for every input the law returns true; each argument reads behind the call as it read before'; 0 by the template 'total and deterministic' (their statements: YtjdfodmialhakaaDoorTotals.lean).
  GIVEN WITH THE SEED: the statements are not yours to turn. If you find one false, say at which input.
  Laid BY PROGRAM, IN A SANDBOX (cutbox-rows.mjs): the forced cells as the released guide's own fill.sh prints them over the translation 650ccd47e6f50937… (all of the seat's roots in one cut). By AI agents, Wed Nov 11 2026. No macro, syntax, notation, axiom, sorry.
-/
import Derived.Test.YtjdfodmialhakaaDoorChecked
import GoSem.PinnedTables
import GoSem.Claim
import GoSem.ClaimJoined
import GoSem.ClaimMapViews
import Derived.JoinedTies
import Derived.KernelRfl
namespace Go.Proofs.YtjdfodmialhakaaDoor
/- THE CELL 'sum', in the pinned program and in every row, IS THE sha256 OF THE DUMP (.gsa) THAT YtjdfodmialhakaaDoorProg.lean LOADS. Nothing in Lean hashes anything: it is a label: what it is worth is what the hold of that sum in a sandbox is worth. -/
noncomputable def Tryd.pinned : Pinned := { name := "ytjdfodmialhakaadoor", sum := "650ccd47e6f5093775f7d9154f72d9e3e7c16bb326b486d1daea8125f8de0893", checked := Tryd.checked }
namespace Rows
def none {H : Type} : Left H := { results := [], args := [] }

/- WHAT THE LISTED PACKAGE-LEVEL VARIABLES READ AS WHEN THE CALL BEGINS. Each datum BY PROGRAM (the guide's laid-datum.mjs) off the statement by which the dump's own 'gosem.cut.vars' lays the variable. In a bare row this is a premise. The card (YtjdfodmialhakaaDoorCards.lean) ties it to the program's text. -/
def laid_unicode_utf8_acceptRanges {H : Type} : DataW H := .agg [.agg [.lit (.int .u8 128), .lit (.int .u8 191)], .agg [.lit (.int .u8 160), .lit (.int .u8 191)], .agg [.lit (.int .u8 128), .lit (.int .u8 159)], .agg [.lit (.int .u8 144), .lit (.int .u8 191)], .agg [.lit (.int .u8 128), .lit (.int .u8 143)], .agg [.lit (.int .u8 0), .lit (.int .u8 0)], .agg [.lit (.int .u8 0), .lit (.int .u8 0)], .agg [.lit (.int .u8 0), .lit (.int .u8 0)], .agg [.lit (.int .u8 0), .lit (.int .u8 0)], .agg [.lit (.int .u8 0), .lit (.int .u8 0)], .agg [.lit (.int .u8 0), .lit (.int .u8 0)], .agg [.lit (.int .u8 0), .lit (.int .u8 0)], .agg [.lit (.int .u8 0), .lit (.int .u8 0)], .agg [.lit (.int .u8 0), .lit (.int .u8 0)], .agg [.lit (.int .u8 0), .lit (.int .u8 0)], .agg [.lit (.int .u8 0), .lit (.int .u8 0)]]
/-- One of Go's own tables, pinned by name: the form's constant. -/
def laid_unicode_utf8_first : DataW Unit := Go.Pinned.utf8First

/-- 'fasciclelaw05.CodePuts': WHATEVER THE INPUT: true; the input reads as it did. -/
def codePutsSpec : ChangeSpec := { name := "codePuts", fn := fun _ => fun
  | [d1, d2] => { results := [.lit (.bool true)], args := [d1, d2] }
  | _ => none }
def codePutsRow : OpenClaim := { program := "ytjdfodmialhakaadoor", sum := "650ccd47e6f5093775f7d9154f72d9e3e7c16bb326b486d1daea8125f8de0893", func := "fascicle/fasciclelaw05.CodePuts", spec := "codePuts", inPlace := ["math.Float64frombits"], unfollowed := true, recurses := true, named := ["unicode/utf8.first", "unicode/utf8.acceptRanges"], apart := false, laid := [("unicode/utf8.acceptRanges", laid_unicode_utf8_acceptRanges), ("unicode/utf8.first", laid_unicode_utf8_first)] }
def CodePutsSaid : Prop := codePutsRow.holds Tryd.pinned (OpenSpec.ofChange codePutsSpec)

/-- ITS FALSE NEIGHBOUR: 'it returns false'. Refute it at one input. -/
def codePutsWrong : ChangeSpec := { name := "codePuts", fn := fun _ => fun
  | [d1, d2] => { results := [.lit (.bool false)], args := [d1, d2] }
  | _ => none }
def CodePutsWrongFalsely : Prop := codePutsRow.holds Tryd.pinned (OpenSpec.ofChange codePutsWrong)

/-- 'fasciclelaw05.CodeBack': WHATEVER THE INPUT: true; the input reads as it did. -/
def codeBackSpec : ChangeSpec := { name := "codeBack", fn := fun _ => fun
  | [d1, d2, d3, d4] => { results := [.lit (.bool true)], args := [d1, d2, d3, d4] }
  | _ => none }
def codeBackRow : OpenClaim := { program := "ytjdfodmialhakaadoor", sum := "650ccd47e6f5093775f7d9154f72d9e3e7c16bb326b486d1daea8125f8de0893", func := "fascicle/fasciclelaw05.CodeBack", spec := "codeBack", inPlace := ["math.Float64frombits"], unfollowed := true, recurses := true, named := ["unicode/utf8.first", "unicode/utf8.acceptRanges"], apart := false, laid := [("unicode/utf8.acceptRanges", laid_unicode_utf8_acceptRanges), ("unicode/utf8.first", laid_unicode_utf8_first)] }
def CodeBackSaid : Prop := codeBackRow.holds Tryd.pinned (OpenSpec.ofChange codeBackSpec)

/-- ITS FALSE NEIGHBOUR: 'it returns false'. Refute it at one input. -/
def codeBackWrong : ChangeSpec := { name := "codeBack", fn := fun _ => fun
  | [d1, d2, d3, d4] => { results := [.lit (.bool false)], args := [d1, d2, d3, d4] }
  | _ => none }
def CodeBackWrongFalsely : Prop := codeBackRow.holds Tryd.pinned (OpenSpec.ofChange codeBackWrong)

/-- 'fasciclelaw05.CodeApart': WHATEVER THE INPUT: true; the input reads as it did. -/
def codeApartSpec : ChangeSpec := { name := "codeApart", fn := fun _ => fun
  | [d1, d2] => { results := [.lit (.bool true)], args := [d1, d2] }
  | _ => none }
def codeApartRow : OpenClaim := { program := "ytjdfodmialhakaadoor", sum := "650ccd47e6f5093775f7d9154f72d9e3e7c16bb326b486d1daea8125f8de0893", func := "fascicle/fasciclelaw05.CodeApart", spec := "codeApart", inPlace := ["math.Float64frombits"], unfollowed := true, recurses := true, named := ["unicode/utf8.first", "unicode/utf8.acceptRanges"], apart := false, laid := [("unicode/utf8.acceptRanges", laid_unicode_utf8_acceptRanges), ("unicode/utf8.first", laid_unicode_utf8_first)] }
def CodeApartSaid : Prop := codeApartRow.holds Tryd.pinned (OpenSpec.ofChange codeApartSpec)

/-- ITS FALSE NEIGHBOUR: 'it returns false'. Refute it at one input. -/
def codeApartWrong : ChangeSpec := { name := "codeApart", fn := fun _ => fun
  | [d1, d2] => { results := [.lit (.bool false)], args := [d1, d2] }
  | _ => none }
def CodeApartWrongFalsely : Prop := codeApartRow.holds Tryd.pinned (OpenSpec.ofChange codeApartWrong)

/-- 'fasciclelaw05.CodeGets': WHATEVER THE INPUT: true; the input reads as it did. -/
def codeGetsSpec : ChangeSpec := { name := "codeGets", fn := fun _ => fun
  | [d] => { results := [.lit (.bool true)], args := [d] }
  | _ => none }
def codeGetsRow : OpenClaim := { program := "ytjdfodmialhakaadoor", sum := "650ccd47e6f5093775f7d9154f72d9e3e7c16bb326b486d1daea8125f8de0893", func := "fascicle/fasciclelaw05.CodeGets", spec := "codeGets", inPlace := ["math.Float64frombits"], unfollowed := true, recurses := true, named := ["unicode/utf8.first", "unicode/utf8.acceptRanges"], apart := false, laid := [("unicode/utf8.acceptRanges", laid_unicode_utf8_acceptRanges), ("unicode/utf8.first", laid_unicode_utf8_first)] }
def CodeGetsSaid : Prop := codeGetsRow.holds Tryd.pinned (OpenSpec.ofChange codeGetsSpec)

/-- ITS FALSE NEIGHBOUR: 'it returns false'. Refute it at one input. -/
def codeGetsWrong : ChangeSpec := { name := "codeGets", fn := fun _ => fun
  | [d] => { results := [.lit (.bool false)], args := [d] }
  | _ => none }
def CodeGetsWrongFalsely : Prop := codeGetsRow.holds Tryd.pinned (OpenSpec.ofChange codeGetsWrong)

/-- 'fasciclelaw23.BufferNil': WHATEVER THE INPUT: true; the input reads as it did. -/
def bufferNilSpec : ChangeSpec := { name := "bufferNil", fn := fun _ => fun
  | [d1, d2] => { results := [.lit (.bool true)], args := [d1, d2] }
  | _ => none }
def bufferNilRow : OpenClaim := { program := "ytjdfodmialhakaadoor", sum := "650ccd47e6f5093775f7d9154f72d9e3e7c16bb326b486d1daea8125f8de0893", func := "fascicle/fasciclelaw23.BufferNil", spec := "bufferNil", inPlace := ["math.Float64frombits"], unfollowed := true, recurses := true, named := ["unicode/utf8.first", "unicode/utf8.acceptRanges"], apart := false, laid := [("unicode/utf8.acceptRanges", laid_unicode_utf8_acceptRanges), ("unicode/utf8.first", laid_unicode_utf8_first)] }
def BufferNilSaid : Prop := bufferNilRow.holds Tryd.pinned (OpenSpec.ofChange bufferNilSpec)

/-- ITS FALSE NEIGHBOUR: 'it returns false'. Refute it at one input. -/
def bufferNilWrong : ChangeSpec := { name := "bufferNil", fn := fun _ => fun
  | [d1, d2] => { results := [.lit (.bool false)], args := [d1, d2] }
  | _ => none }
def BufferNilWrongFalsely : Prop := bufferNilRow.holds Tryd.pinned (OpenSpec.ofChange bufferNilWrong)

/-- 'fasciclelaw25.DocPuts': WHATEVER THE INPUT: true; the input reads as it did. -/
def docPutsSpec : ChangeSpec := { name := "docPuts", fn := fun _ => fun
  | [d] => { results := [.lit (.bool true)], args := [d] }
  | _ => none }
def docPutsRow : OpenClaim := { program := "ytjdfodmialhakaadoor", sum := "650ccd47e6f5093775f7d9154f72d9e3e7c16bb326b486d1daea8125f8de0893", func := "fascicle/fasciclelaw25.DocPuts", spec := "docPuts", inPlace := ["math.Float64frombits"], unfollowed := true, recurses := true, named := ["unicode/utf8.first", "unicode/utf8.acceptRanges"], loops := true, apart := false, laid := [("unicode/utf8.acceptRanges", laid_unicode_utf8_acceptRanges), ("unicode/utf8.first", laid_unicode_utf8_first)] }
def DocPutsSaid : Prop := docPutsRow.holds Tryd.pinned (OpenSpec.ofChange docPutsSpec)

/-- ITS FALSE NEIGHBOUR: 'it returns false'. Refute it at one input. -/
def docPutsWrong : ChangeSpec := { name := "docPuts", fn := fun _ => fun
  | [d] => { results := [.lit (.bool false)], args := [d] }
  | _ => none }
def DocPutsWrongFalsely : Prop := docPutsRow.holds Tryd.pinned (OpenSpec.ofChange docPutsWrong)

/-- 'fasciclelaw25.DocGets': WHATEVER THE INPUT: true; the input reads as it did. -/
def docGetsSpec : ChangeSpec := { name := "docGets", fn := fun _ => fun
  | [d] => { results := [.lit (.bool true)], args := [d] }
  | _ => none }
def docGetsRow : OpenClaim := { program := "ytjdfodmialhakaadoor", sum := "650ccd47e6f5093775f7d9154f72d9e3e7c16bb326b486d1daea8125f8de0893", func := "fascicle/fasciclelaw25.DocGets", spec := "docGets", inPlace := ["math.Float64frombits"], unfollowed := true, recurses := true, named := ["unicode/utf8.first", "unicode/utf8.acceptRanges"], apart := false, laid := [("unicode/utf8.acceptRanges", laid_unicode_utf8_acceptRanges), ("unicode/utf8.first", laid_unicode_utf8_first)] }
def DocGetsSaid : Prop := docGetsRow.holds Tryd.pinned (OpenSpec.ofChange docGetsSpec)

/-- ITS FALSE NEIGHBOUR: 'it returns false'. Refute it at one input. -/
def docGetsWrong : ChangeSpec := { name := "docGets", fn := fun _ => fun
  | [d] => { results := [.lit (.bool false)], args := [d] }
  | _ => none }
def DocGetsWrongFalsely : Prop := docGetsRow.holds Tryd.pinned (OpenSpec.ofChange docGetsWrong)

/-- 'fasciclelaw16.EventPuts': WHATEVER THE INPUT: true; the input reads as it did. -/
def eventPutsSpec : ChangeSpec := { name := "eventPuts", fn := fun _ => fun
  | [d] => { results := [.lit (.bool true)], args := [d] }
  | _ => none }
def eventPutsRow : OpenClaim := { program := "ytjdfodmialhakaadoor", sum := "650ccd47e6f5093775f7d9154f72d9e3e7c16bb326b486d1daea8125f8de0893", func := "fascicle/fasciclelaw16.EventPuts", spec := "eventPuts", inPlace := ["math.Float64frombits"], unfollowed := true, recurses := true, named := ["unicode/utf8.first", "unicode/utf8.acceptRanges"], apart := false, laid := [("unicode/utf8.acceptRanges", laid_unicode_utf8_acceptRanges), ("unicode/utf8.first", laid_unicode_utf8_first)] }
def EventPutsSaid : Prop := eventPutsRow.holds Tryd.pinned (OpenSpec.ofChange eventPutsSpec)

/-- ITS FALSE NEIGHBOUR: 'it returns false'. Refute it at one input. -/
def eventPutsWrong : ChangeSpec := { name := "eventPuts", fn := fun _ => fun
  | [d] => { results := [.lit (.bool false)], args := [d] }
  | _ => none }
def EventPutsWrongFalsely : Prop := eventPutsRow.holds Tryd.pinned (OpenSpec.ofChange eventPutsWrong)

/-- 'fasciclelaw16.EventMarks': WHATEVER THE INPUT: true; the input reads as it did. -/
def eventMarksSpec : ChangeSpec := { name := "eventMarks", fn := fun _ => fun
  | [d1, d2] => { results := [.lit (.bool true)], args := [d1, d2] }
  | _ => none }
def eventMarksRow : OpenClaim := { program := "ytjdfodmialhakaadoor", sum := "650ccd47e6f5093775f7d9154f72d9e3e7c16bb326b486d1daea8125f8de0893", func := "fascicle/fasciclelaw16.EventMarks", spec := "eventMarks", inPlace := ["math.Float64frombits"], unfollowed := true, recurses := true, named := ["unicode/utf8.first", "unicode/utf8.acceptRanges"], apart := false, laid := [("unicode/utf8.acceptRanges", laid_unicode_utf8_acceptRanges), ("unicode/utf8.first", laid_unicode_utf8_first)] }
def EventMarksSaid : Prop := eventMarksRow.holds Tryd.pinned (OpenSpec.ofChange eventMarksSpec)

/-- ITS FALSE NEIGHBOUR: 'it returns false'. Refute it at one input. -/
def eventMarksWrong : ChangeSpec := { name := "eventMarks", fn := fun _ => fun
  | [d1, d2] => { results := [.lit (.bool false)], args := [d1, d2] }
  | _ => none }
def EventMarksWrongFalsely : Prop := eventMarksRow.holds Tryd.pinned (OpenSpec.ofChange eventMarksWrong)

/-- 'fasciclelaw16.EventBack': WHATEVER THE INPUT: true; the input reads as it did. -/
def eventBackSpec : ChangeSpec := { name := "eventBack", fn := fun _ => fun
  | [d1, d2, d3] => { results := [.lit (.bool true)], args := [d1, d2, d3] }
  | _ => none }
def eventBackRow : OpenClaim := { program := "ytjdfodmialhakaadoor", sum := "650ccd47e6f5093775f7d9154f72d9e3e7c16bb326b486d1daea8125f8de0893", func := "fascicle/fasciclelaw16.EventBack", spec := "eventBack", inPlace := ["math.Float64frombits"], unfollowed := true, recurses := true, named := ["unicode/utf8.first", "unicode/utf8.acceptRanges"], apart := false, laid := [("unicode/utf8.acceptRanges", laid_unicode_utf8_acceptRanges), ("unicode/utf8.first", laid_unicode_utf8_first)] }
def EventBackSaid : Prop := eventBackRow.holds Tryd.pinned (OpenSpec.ofChange eventBackSpec)

/-- ITS FALSE NEIGHBOUR: 'it returns false'. Refute it at one input. -/
def eventBackWrong : ChangeSpec := { name := "eventBack", fn := fun _ => fun
  | [d1, d2, d3] => { results := [.lit (.bool false)], args := [d1, d2, d3] }
  | _ => none }
def EventBackWrongFalsely : Prop := eventBackRow.holds Tryd.pinned (OpenSpec.ofChange eventBackWrong)

/-- 'fasciclelaw13.SchemaCodes': WHATEVER THE INPUT: true; the input reads as it did. -/
def schemaCodesSpec : ChangeSpec := { name := "schemaCodes", fn := fun _ => fun
  | [d1, d2] => { results := [.lit (.bool true)], args := [d1, d2] }
  | _ => none }
def schemaCodesRow : OpenClaim := { program := "ytjdfodmialhakaadoor", sum := "650ccd47e6f5093775f7d9154f72d9e3e7c16bb326b486d1daea8125f8de0893", func := "fascicle/fasciclelaw13.SchemaCodes", spec := "schemaCodes", inPlace := ["math.Float64frombits"], unfollowed := true, recurses := true, named := ["unicode/utf8.first", "unicode/utf8.acceptRanges"], apart := false, laid := [("unicode/utf8.acceptRanges", laid_unicode_utf8_acceptRanges), ("unicode/utf8.first", laid_unicode_utf8_first)] }
def SchemaCodesSaid : Prop := schemaCodesRow.holds Tryd.pinned (OpenSpec.ofChange schemaCodesSpec)

/-- ITS FALSE NEIGHBOUR: 'it returns false'. Refute it at one input. -/
def schemaCodesWrong : ChangeSpec := { name := "schemaCodes", fn := fun _ => fun
  | [d1, d2] => { results := [.lit (.bool false)], args := [d1, d2] }
  | _ => none }
def SchemaCodesWrongFalsely : Prop := schemaCodesRow.holds Tryd.pinned (OpenSpec.ofChange schemaCodesWrong)

/-- 'fasciclelaw13.SchemaBack': WHATEVER THE INPUT: true; the input reads as it did. -/
def schemaBackSpec : ChangeSpec := { name := "schemaBack", fn := fun _ => fun
  | [d1, d2] => { results := [.lit (.bool true)], args := [d1, d2] }
  | _ => none }
def schemaBackRow : OpenClaim := { program := "ytjdfodmialhakaadoor", sum := "650ccd47e6f5093775f7d9154f72d9e3e7c16bb326b486d1daea8125f8de0893", func := "fascicle/fasciclelaw13.SchemaBack", spec := "schemaBack", inPlace := ["math.Float64frombits"], unfollowed := true, recurses := true, named := ["unicode/utf8.first", "unicode/utf8.acceptRanges"], apart := false, laid := [("unicode/utf8.acceptRanges", laid_unicode_utf8_acceptRanges), ("unicode/utf8.first", laid_unicode_utf8_first)] }
def SchemaBackSaid : Prop := schemaBackRow.holds Tryd.pinned (OpenSpec.ofChange schemaBackSpec)

/-- ITS FALSE NEIGHBOUR: 'it returns false'. Refute it at one input. -/
def schemaBackWrong : ChangeSpec := { name := "schemaBack", fn := fun _ => fun
  | [d1, d2] => { results := [.lit (.bool false)], args := [d1, d2] }
  | _ => none }
def SchemaBackWrongFalsely : Prop := schemaBackRow.holds Tryd.pinned (OpenSpec.ofChange schemaBackWrong)

/-- 'fasciclelaw13.SchemaForest': WHATEVER THE INPUT: true; the input reads as it did. -/
def schemaForestSpec : ChangeSpec := { name := "schemaForest", fn := fun _ => fun
  | [d] => { results := [.lit (.bool true)], args := [d] }
  | _ => none }
def schemaForestRow : OpenClaim := { program := "ytjdfodmialhakaadoor", sum := "650ccd47e6f5093775f7d9154f72d9e3e7c16bb326b486d1daea8125f8de0893", func := "fascicle/fasciclelaw13.SchemaForest", spec := "schemaForest", inPlace := ["math.Float64frombits"], unfollowed := true, recurses := true, named := ["unicode/utf8.first", "unicode/utf8.acceptRanges"], apart := false, laid := [("unicode/utf8.acceptRanges", laid_unicode_utf8_acceptRanges), ("unicode/utf8.first", laid_unicode_utf8_first)] }
def SchemaForestSaid : Prop := schemaForestRow.holds Tryd.pinned (OpenSpec.ofChange schemaForestSpec)

/-- ITS FALSE NEIGHBOUR: 'it returns false'. Refute it at one input. -/
def schemaForestWrong : ChangeSpec := { name := "schemaForest", fn := fun _ => fun
  | [d] => { results := [.lit (.bool false)], args := [d] }
  | _ => none }
def SchemaForestWrongFalsely : Prop := schemaForestRow.holds Tryd.pinned (OpenSpec.ofChange schemaForestWrong)

/-- 'fasciclelaw13.SchemaMay': WHATEVER THE INPUT: true; the input reads as it did. -/
def schemaMaySpec : ChangeSpec := { name := "schemaMay", fn := fun _ => fun
  | [d1, d2, d3, d4] => { results := [.lit (.bool true)], args := [d1, d2, d3, d4] }
  | _ => none }
def schemaMayRow : OpenClaim := { program := "ytjdfodmialhakaadoor", sum := "650ccd47e6f5093775f7d9154f72d9e3e7c16bb326b486d1daea8125f8de0893", func := "fascicle/fasciclelaw13.SchemaMay", spec := "schemaMay", inPlace := ["math.Float64frombits"], unfollowed := true, recurses := true, named := ["unicode/utf8.first", "unicode/utf8.acceptRanges"], apart := false, laid := [("unicode/utf8.acceptRanges", laid_unicode_utf8_acceptRanges), ("unicode/utf8.first", laid_unicode_utf8_first)] }
def SchemaMaySaid : Prop := schemaMayRow.holds Tryd.pinned (OpenSpec.ofChange schemaMaySpec)

/-- ITS FALSE NEIGHBOUR: 'it returns false'. Refute it at one input. -/
def schemaMayWrong : ChangeSpec := { name := "schemaMay", fn := fun _ => fun
  | [d1, d2, d3, d4] => { results := [.lit (.bool false)], args := [d1, d2, d3, d4] }
  | _ => none }
def SchemaMayWrongFalsely : Prop := schemaMayRow.holds Tryd.pinned (OpenSpec.ofChange schemaMayWrong)

/- THE SECOND FORM. 'bulk': how many values and letters a reading holds, each counted each time it is reached (what is shared counts as often as it is met; a slice's spare places count too). A statement '..UptoSaid' is the law's where the arguments, and the package variables that the reading takes, are together of bulk at most 1048576: NARROWER than '..Said'. Prove '..Said' where nothing that the law and all that it calls make is longer than what came in: it says more and counts as full. Else prove '..UptoSaid'. A law counts once. -/
mutual
def uptoBulk {H : Type} : DataW H → Nat
  | .lit (.string bytes) => bytes.length + 1
  | .lit _ => 1
  | .nil => 1
  | .ptr d => uptoBulk d + 1
  | .slice elems spare => uptoBulkAll elems + uptoBulkAll spare + 1
  | .agg parts => uptoBulkAll parts + 1
  | .iface _ d => uptoBulk d + 1
  | .map entries => uptoBulkEntries entries + 1
  | .held _ => 1
def uptoBulkAll {H : Type} : List (DataW H) → Nat
  | [] => 0
  | d :: r => uptoBulk d + uptoBulkAll r
def uptoBulkEntries {H : Type} : List (Lit × DataW H) → Nat
  | [] => 0
  | x :: r => uptoBulkEntry x + uptoBulkEntries r
def uptoBulkEntry {H : Type} : Lit × DataW H → Nat
  | (.string bytes, d) => bytes.length + uptoBulk d + 1
  | (_, d) => uptoBulk d + 1
 end
def uptoSmall : (H : Type) → List (DataW H) → Bool := fun _ ds => decide (uptoBulkAll ds ≤ 1048576)
def OpenSpec.upto (s : _root_.Go.ChangeSpec) : _root_.Go.OpenSpec := { _root_.Go.OpenSpec.ofChange s with cond := some uptoSmall }

/-- 'fasciclelaw05.CodePuts', WHERE WHAT IT READS IS OF BULK AT MOST 1048576: true; the input reads as it did. -/
def codePutsUptoRow : OpenClaim := { program := "ytjdfodmialhakaadoor", sum := "650ccd47e6f5093775f7d9154f72d9e3e7c16bb326b486d1daea8125f8de0893", func := "fascicle/fasciclelaw05.CodePuts", spec := "codePuts", inPlace := ["math.Float64frombits"], unfollowed := true, recurses := true, named := ["unicode/utf8.first", "unicode/utf8.acceptRanges"], apart := false, laid := [("unicode/utf8.acceptRanges", laid_unicode_utf8_acceptRanges), ("unicode/utf8.first", laid_unicode_utf8_first)], narrowed := true }
def CodePutsUptoSaid : Prop := codePutsUptoRow.holds Tryd.pinned (OpenSpec.upto codePutsSpec)

/-- 'fasciclelaw05.CodeBack', WHERE WHAT IT READS IS OF BULK AT MOST 1048576: true; the input reads as it did. -/
def codeBackUptoRow : OpenClaim := { program := "ytjdfodmialhakaadoor", sum := "650ccd47e6f5093775f7d9154f72d9e3e7c16bb326b486d1daea8125f8de0893", func := "fascicle/fasciclelaw05.CodeBack", spec := "codeBack", inPlace := ["math.Float64frombits"], unfollowed := true, recurses := true, named := ["unicode/utf8.first", "unicode/utf8.acceptRanges"], apart := false, laid := [("unicode/utf8.acceptRanges", laid_unicode_utf8_acceptRanges), ("unicode/utf8.first", laid_unicode_utf8_first)], narrowed := true }
def CodeBackUptoSaid : Prop := codeBackUptoRow.holds Tryd.pinned (OpenSpec.upto codeBackSpec)

/-- 'fasciclelaw05.CodeApart', WHERE WHAT IT READS IS OF BULK AT MOST 1048576: true; the input reads as it did. -/
def codeApartUptoRow : OpenClaim := { program := "ytjdfodmialhakaadoor", sum := "650ccd47e6f5093775f7d9154f72d9e3e7c16bb326b486d1daea8125f8de0893", func := "fascicle/fasciclelaw05.CodeApart", spec := "codeApart", inPlace := ["math.Float64frombits"], unfollowed := true, recurses := true, named := ["unicode/utf8.first", "unicode/utf8.acceptRanges"], apart := false, laid := [("unicode/utf8.acceptRanges", laid_unicode_utf8_acceptRanges), ("unicode/utf8.first", laid_unicode_utf8_first)], narrowed := true }
def CodeApartUptoSaid : Prop := codeApartUptoRow.holds Tryd.pinned (OpenSpec.upto codeApartSpec)

/-- 'fasciclelaw05.CodeGets', WHERE WHAT IT READS IS OF BULK AT MOST 1048576: true; the input reads as it did. -/
def codeGetsUptoRow : OpenClaim := { program := "ytjdfodmialhakaadoor", sum := "650ccd47e6f5093775f7d9154f72d9e3e7c16bb326b486d1daea8125f8de0893", func := "fascicle/fasciclelaw05.CodeGets", spec := "codeGets", inPlace := ["math.Float64frombits"], unfollowed := true, recurses := true, named := ["unicode/utf8.first", "unicode/utf8.acceptRanges"], apart := false, laid := [("unicode/utf8.acceptRanges", laid_unicode_utf8_acceptRanges), ("unicode/utf8.first", laid_unicode_utf8_first)], narrowed := true }
def CodeGetsUptoSaid : Prop := codeGetsUptoRow.holds Tryd.pinned (OpenSpec.upto codeGetsSpec)

/-- 'fasciclelaw23.BufferNil', WHERE WHAT IT READS IS OF BULK AT MOST 1048576: true; the input reads as it did. -/
def bufferNilUptoRow : OpenClaim := { program := "ytjdfodmialhakaadoor", sum := "650ccd47e6f5093775f7d9154f72d9e3e7c16bb326b486d1daea8125f8de0893", func := "fascicle/fasciclelaw23.BufferNil", spec := "bufferNil", inPlace := ["math.Float64frombits"], unfollowed := true, recurses := true, named := ["unicode/utf8.first", "unicode/utf8.acceptRanges"], apart := false, laid := [("unicode/utf8.acceptRanges", laid_unicode_utf8_acceptRanges), ("unicode/utf8.first", laid_unicode_utf8_first)], narrowed := true }
def BufferNilUptoSaid : Prop := bufferNilUptoRow.holds Tryd.pinned (OpenSpec.upto bufferNilSpec)

/-- 'fasciclelaw25.DocPuts', WHERE WHAT IT READS IS OF BULK AT MOST 1048576: true; the input reads as it did. -/
def docPutsUptoRow : OpenClaim := { program := "ytjdfodmialhakaadoor", sum := "650ccd47e6f5093775f7d9154f72d9e3e7c16bb326b486d1daea8125f8de0893", func := "fascicle/fasciclelaw25.DocPuts", spec := "docPuts", inPlace := ["math.Float64frombits"], unfollowed := true, recurses := true, named := ["unicode/utf8.first", "unicode/utf8.acceptRanges"], loops := true, apart := false, laid := [("unicode/utf8.acceptRanges", laid_unicode_utf8_acceptRanges), ("unicode/utf8.first", laid_unicode_utf8_first)], narrowed := true }
def DocPutsUptoSaid : Prop := docPutsUptoRow.holds Tryd.pinned (OpenSpec.upto docPutsSpec)

/-- 'fasciclelaw25.DocGets', WHERE WHAT IT READS IS OF BULK AT MOST 1048576: true; the input reads as it did. -/
def docGetsUptoRow : OpenClaim := { program := "ytjdfodmialhakaadoor", sum := "650ccd47e6f5093775f7d9154f72d9e3e7c16bb326b486d1daea8125f8de0893", func := "fascicle/fasciclelaw25.DocGets", spec := "docGets", inPlace := ["math.Float64frombits"], unfollowed := true, recurses := true, named := ["unicode/utf8.first", "unicode/utf8.acceptRanges"], apart := false, laid := [("unicode/utf8.acceptRanges", laid_unicode_utf8_acceptRanges), ("unicode/utf8.first", laid_unicode_utf8_first)], narrowed := true }
def DocGetsUptoSaid : Prop := docGetsUptoRow.holds Tryd.pinned (OpenSpec.upto docGetsSpec)

/-- 'fasciclelaw16.EventPuts', WHERE WHAT IT READS IS OF BULK AT MOST 1048576: true; the input reads as it did. -/
def eventPutsUptoRow : OpenClaim := { program := "ytjdfodmialhakaadoor", sum := "650ccd47e6f5093775f7d9154f72d9e3e7c16bb326b486d1daea8125f8de0893", func := "fascicle/fasciclelaw16.EventPuts", spec := "eventPuts", inPlace := ["math.Float64frombits"], unfollowed := true, recurses := true, named := ["unicode/utf8.first", "unicode/utf8.acceptRanges"], apart := false, laid := [("unicode/utf8.acceptRanges", laid_unicode_utf8_acceptRanges), ("unicode/utf8.first", laid_unicode_utf8_first)], narrowed := true }
def EventPutsUptoSaid : Prop := eventPutsUptoRow.holds Tryd.pinned (OpenSpec.upto eventPutsSpec)

/-- 'fasciclelaw16.EventMarks', WHERE WHAT IT READS IS OF BULK AT MOST 1048576: true; the input reads as it did. -/
def eventMarksUptoRow : OpenClaim := { program := "ytjdfodmialhakaadoor", sum := "650ccd47e6f5093775f7d9154f72d9e3e7c16bb326b486d1daea8125f8de0893", func := "fascicle/fasciclelaw16.EventMarks", spec := "eventMarks", inPlace := ["math.Float64frombits"], unfollowed := true, recurses := true, named := ["unicode/utf8.first", "unicode/utf8.acceptRanges"], apart := false, laid := [("unicode/utf8.acceptRanges", laid_unicode_utf8_acceptRanges), ("unicode/utf8.first", laid_unicode_utf8_first)], narrowed := true }
def EventMarksUptoSaid : Prop := eventMarksUptoRow.holds Tryd.pinned (OpenSpec.upto eventMarksSpec)

/-- 'fasciclelaw16.EventBack', WHERE WHAT IT READS IS OF BULK AT MOST 1048576: true; the input reads as it did. -/
def eventBackUptoRow : OpenClaim := { program := "ytjdfodmialhakaadoor", sum := "650ccd47e6f5093775f7d9154f72d9e3e7c16bb326b486d1daea8125f8de0893", func := "fascicle/fasciclelaw16.EventBack", spec := "eventBack", inPlace := ["math.Float64frombits"], unfollowed := true, recurses := true, named := ["unicode/utf8.first", "unicode/utf8.acceptRanges"], apart := false, laid := [("unicode/utf8.acceptRanges", laid_unicode_utf8_acceptRanges), ("unicode/utf8.first", laid_unicode_utf8_first)], narrowed := true }
def EventBackUptoSaid : Prop := eventBackUptoRow.holds Tryd.pinned (OpenSpec.upto eventBackSpec)

/-- 'fasciclelaw13.SchemaCodes', WHERE WHAT IT READS IS OF BULK AT MOST 1048576: true; the input reads as it did. -/
def schemaCodesUptoRow : OpenClaim := { program := "ytjdfodmialhakaadoor", sum := "650ccd47e6f5093775f7d9154f72d9e3e7c16bb326b486d1daea8125f8de0893", func := "fascicle/fasciclelaw13.SchemaCodes", spec := "schemaCodes", inPlace := ["math.Float64frombits"], unfollowed := true, recurses := true, named := ["unicode/utf8.first", "unicode/utf8.acceptRanges"], apart := false, laid := [("unicode/utf8.acceptRanges", laid_unicode_utf8_acceptRanges), ("unicode/utf8.first", laid_unicode_utf8_first)], narrowed := true }
def SchemaCodesUptoSaid : Prop := schemaCodesUptoRow.holds Tryd.pinned (OpenSpec.upto schemaCodesSpec)

/-- 'fasciclelaw13.SchemaBack', WHERE WHAT IT READS IS OF BULK AT MOST 1048576: true; the input reads as it did. -/
def schemaBackUptoRow : OpenClaim := { program := "ytjdfodmialhakaadoor", sum := "650ccd47e6f5093775f7d9154f72d9e3e7c16bb326b486d1daea8125f8de0893", func := "fascicle/fasciclelaw13.SchemaBack", spec := "schemaBack", inPlace := ["math.Float64frombits"], unfollowed := true, recurses := true, named := ["unicode/utf8.first", "unicode/utf8.acceptRanges"], apart := false, laid := [("unicode/utf8.acceptRanges", laid_unicode_utf8_acceptRanges), ("unicode/utf8.first", laid_unicode_utf8_first)], narrowed := true }
def SchemaBackUptoSaid : Prop := schemaBackUptoRow.holds Tryd.pinned (OpenSpec.upto schemaBackSpec)

/-- 'fasciclelaw13.SchemaForest', WHERE WHAT IT READS IS OF BULK AT MOST 1048576: true; the input reads as it did. -/
def schemaForestUptoRow : OpenClaim := { program := "ytjdfodmialhakaadoor", sum := "650ccd47e6f5093775f7d9154f72d9e3e7c16bb326b486d1daea8125f8de0893", func := "fascicle/fasciclelaw13.SchemaForest", spec := "schemaForest", inPlace := ["math.Float64frombits"], unfollowed := true, recurses := true, named := ["unicode/utf8.first", "unicode/utf8.acceptRanges"], apart := false, laid := [("unicode/utf8.acceptRanges", laid_unicode_utf8_acceptRanges), ("unicode/utf8.first", laid_unicode_utf8_first)], narrowed := true }
def SchemaForestUptoSaid : Prop := schemaForestUptoRow.holds Tryd.pinned (OpenSpec.upto schemaForestSpec)

/-- 'fasciclelaw13.SchemaMay', WHERE WHAT IT READS IS OF BULK AT MOST 1048576: true; the input reads as it did. -/
def schemaMayUptoRow : OpenClaim := { program := "ytjdfodmialhakaadoor", sum := "650ccd47e6f5093775f7d9154f72d9e3e7c16bb326b486d1daea8125f8de0893", func := "fascicle/fasciclelaw13.SchemaMay", spec := "schemaMay", inPlace := ["math.Float64frombits"], unfollowed := true, recurses := true, named := ["unicode/utf8.first", "unicode/utf8.acceptRanges"], apart := false, laid := [("unicode/utf8.acceptRanges", laid_unicode_utf8_acceptRanges), ("unicode/utf8.first", laid_unicode_utf8_first)], narrowed := true }
def SchemaMayUptoSaid : Prop := schemaMayUptoRow.holds Tryd.pinned (OpenSpec.upto schemaMaySpec)

end Rows
end Go.Proofs.YtjdfodmialhakaaDoor
