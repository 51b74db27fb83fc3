/-
  NARROWER THAN 'FOR EVERY INPUT', by the rows' own cells (each row's printed sentence says how): JsonMakes: loops, laid · EntryVals: laid · EntryParses: laid · EntryBack: laid · EntryTold: loops, laid · OpMay: laid · OpOne: laid · PubBack: laid · PubReads: laid.
  DERIVED. THE GIVEN ROWS OF THIS SEAT. 9 by the template 'for every input the law returns true; each argument reads behind the call as it read before'; 0 by the template 'total and deterministic' (their statements: YtkjokjogdehonaaGreatDoorTotals.lean).
  GIVEN WITH THE SEED: the statements are not yours to turn. If you find one false, say at which input.
  Laid BY PROGRAM, IN A SANDBOX (cutbox-rows.mjs): the forced cells as the released guide's own fill.sh prints them over the translation 20c73af42f27402a… (all of the seat's roots in one cut). By AI agents, Wed Nov 11 2026. No macro, syntax, notation, axiom, sorry.
-/
import Derived.Test.YtkjokjogdehonaaGreatDoorChecked
import GoSem.PinnedTables
import GoSem.Claim
import GoSem.ClaimJoined
import GoSem.ClaimMapViews
import Derived.JoinedTies
import Derived.KernelRfl
namespace Go.Proofs.YtkjokjogdehonaaGreatDoor
/- THE CELL 'sum', in the pinned program and in every row, IS THE sha256 OF THE DUMP (.gsa) THAT YtkjokjogdehonaaGreatDoorProg.lean LOADS. Nothing in Lean hashes anything: it is a label: what it is worth is what the hold of that sum in a sandbox is worth. -/
noncomputable def Tryz.pinned : Pinned := { name := "ytkjokjogdehonaagreatdoor", sum := "20c73af42f27402ad0b075fe2221f2d30d691c6dc281c5f8e6416623cc97f5e6", checked := Tryz.checked }
namespace Rows
def none {H : Type} : Left H := { results := [], args := [] }

/- WHAT THE LISTED PACKAGE-LEVEL VARIABLES READ AS WHEN THE CALL BEGINS. Each datum BY PROGRAM (the guide's laid-datum.mjs) off the statement by which the dump's own 'gosem.cut.vars' lays the variable. In a bare row this is a premise. The card (YtkjokjogdehonaaGreatDoorCards.lean) ties it to the program's text. -/
def laid_unicode_utf8_acceptRanges {H : Type} : DataW H := .agg [.agg [.lit (.int .u8 128), .lit (.int .u8 191)], .agg [.lit (.int .u8 160), .lit (.int .u8 191)], .agg [.lit (.int .u8 128), .lit (.int .u8 159)], .agg [.lit (.int .u8 144), .lit (.int .u8 191)], .agg [.lit (.int .u8 128), .lit (.int .u8 143)], .agg [.lit (.int .u8 0), .lit (.int .u8 0)], .agg [.lit (.int .u8 0), .lit (.int .u8 0)], .agg [.lit (.int .u8 0), .lit (.int .u8 0)], .agg [.lit (.int .u8 0), .lit (.int .u8 0)], .agg [.lit (.int .u8 0), .lit (.int .u8 0)], .agg [.lit (.int .u8 0), .lit (.int .u8 0)], .agg [.lit (.int .u8 0), .lit (.int .u8 0)], .agg [.lit (.int .u8 0), .lit (.int .u8 0)], .agg [.lit (.int .u8 0), .lit (.int .u8 0)], .agg [.lit (.int .u8 0), .lit (.int .u8 0)], .agg [.lit (.int .u8 0), .lit (.int .u8 0)]]
/-- One of Go's own tables, pinned by name: the form's constant. -/
def laid_unicode_utf8_first : DataW Unit := Go.Pinned.utf8First

/-- 'cringlelaw07.JsonMakes': WHATEVER THE INPUT: true; the input reads as it did. -/
def jsonMakesSpec : ChangeSpec := { name := "jsonMakes", fn := fun _ => fun
  | [d1, d2, d3] => { results := [.lit (.bool true)], args := [d1, d2, d3] }
  | _ => none }
def jsonMakesRow : OpenClaim := { program := "ytkjokjogdehonaagreatdoor", sum := "20c73af42f27402ad0b075fe2221f2d30d691c6dc281c5f8e6416623cc97f5e6", func := "cringle/cringlelaw07.JsonMakes", spec := "jsonMakes", inPlace := ["internal/bytealg.IndexByteString", "internal/bytealg.IndexString", "internal/abi.NoEscape"], unfollowed := true, recurses := true, named := ["unicode/utf8.first", "unicode/utf8.acceptRanges", "internal/bytealg.MaxLen"], loops := true, apart := false, laid := [("unicode/utf8.acceptRanges", laid_unicode_utf8_acceptRanges), ("unicode/utf8.first", laid_unicode_utf8_first)] }
def JsonMakesSaid : Prop := jsonMakesRow.holds Tryz.pinned (OpenSpec.ofChange jsonMakesSpec)

/-- ITS FALSE NEIGHBOUR: 'it returns false'. Refute it at one input. -/
def jsonMakesWrong : ChangeSpec := { name := "jsonMakes", fn := fun _ => fun
  | [d1, d2, d3] => { results := [.lit (.bool false)], args := [d1, d2, d3] }
  | _ => none }
def JsonMakesWrongFalsely : Prop := jsonMakesRow.holds Tryz.pinned (OpenSpec.ofChange jsonMakesWrong)

/-- 'cringlelaw22.EntryVals': WHATEVER THE INPUT: true; the input reads as it did. -/
def entryValsSpec : ChangeSpec := { name := "entryVals", fn := fun _ => fun
  | [d] => { results := [.lit (.bool true)], args := [d] }
  | _ => none }
def entryValsRow : OpenClaim := { program := "ytkjokjogdehonaagreatdoor", sum := "20c73af42f27402ad0b075fe2221f2d30d691c6dc281c5f8e6416623cc97f5e6", func := "cringle/cringlelaw22.EntryVals", spec := "entryVals", inPlace := ["internal/abi.NoEscape", "internal/bytealg.MakeNoZero", "internal/bytealg.IndexByteString", "internal/bytealg.IndexString"], unfollowed := true, recurses := true, named := ["unicode/utf8.first", "unicode/utf8.acceptRanges", "internal/bytealg.MaxLen"], apart := false, laid := [("unicode/utf8.acceptRanges", laid_unicode_utf8_acceptRanges), ("unicode/utf8.first", laid_unicode_utf8_first)] }
def EntryValsSaid : Prop := entryValsRow.holds Tryz.pinned (OpenSpec.ofChange entryValsSpec)

/-- ITS FALSE NEIGHBOUR: 'it returns false'. Refute it at one input. -/
def entryValsWrong : ChangeSpec := { name := "entryVals", fn := fun _ => fun
  | [d] => { results := [.lit (.bool false)], args := [d] }
  | _ => none }
def EntryValsWrongFalsely : Prop := entryValsRow.holds Tryz.pinned (OpenSpec.ofChange entryValsWrong)

/-- 'cringlelaw22.EntryParses': WHATEVER THE INPUT: true; the input reads as it did. -/
def entryParsesSpec : ChangeSpec := { name := "entryParses", fn := fun _ => fun
  | [d] => { results := [.lit (.bool true)], args := [d] }
  | _ => none }
def entryParsesRow : OpenClaim := { program := "ytkjokjogdehonaagreatdoor", sum := "20c73af42f27402ad0b075fe2221f2d30d691c6dc281c5f8e6416623cc97f5e6", func := "cringle/cringlelaw22.EntryParses", spec := "entryParses", inPlace := ["internal/abi.NoEscape", "internal/bytealg.MakeNoZero", "internal/bytealg.IndexByteString", "internal/bytealg.IndexString"], unfollowed := true, recurses := true, named := ["unicode/utf8.first", "unicode/utf8.acceptRanges", "internal/bytealg.MaxLen"], apart := false, laid := [("unicode/utf8.acceptRanges", laid_unicode_utf8_acceptRanges), ("unicode/utf8.first", laid_unicode_utf8_first)] }
def EntryParsesSaid : Prop := entryParsesRow.holds Tryz.pinned (OpenSpec.ofChange entryParsesSpec)

/-- ITS FALSE NEIGHBOUR: 'it returns false'. Refute it at one input. -/
def entryParsesWrong : ChangeSpec := { name := "entryParses", fn := fun _ => fun
  | [d] => { results := [.lit (.bool false)], args := [d] }
  | _ => none }
def EntryParsesWrongFalsely : Prop := entryParsesRow.holds Tryz.pinned (OpenSpec.ofChange entryParsesWrong)

/-- 'cringlelaw22.EntryBack': WHATEVER THE INPUT: true; the input reads as it did. -/
def entryBackSpec : ChangeSpec := { name := "entryBack", fn := fun _ => fun
  | [d] => { results := [.lit (.bool true)], args := [d] }
  | _ => none }
def entryBackRow : OpenClaim := { program := "ytkjokjogdehonaagreatdoor", sum := "20c73af42f27402ad0b075fe2221f2d30d691c6dc281c5f8e6416623cc97f5e6", func := "cringle/cringlelaw22.EntryBack", spec := "entryBack", inPlace := ["internal/abi.NoEscape", "internal/bytealg.MakeNoZero", "internal/bytealg.IndexByteString", "internal/bytealg.IndexString"], unfollowed := true, recurses := true, named := ["unicode/utf8.first", "unicode/utf8.acceptRanges", "internal/bytealg.MaxLen"], apart := false, laid := [("unicode/utf8.acceptRanges", laid_unicode_utf8_acceptRanges), ("unicode/utf8.first", laid_unicode_utf8_first)] }
def EntryBackSaid : Prop := entryBackRow.holds Tryz.pinned (OpenSpec.ofChange entryBackSpec)

/-- ITS FALSE NEIGHBOUR: 'it returns false'. Refute it at one input. -/
def entryBackWrong : ChangeSpec := { name := "entryBack", fn := fun _ => fun
  | [d] => { results := [.lit (.bool false)], args := [d] }
  | _ => none }
def EntryBackWrongFalsely : Prop := entryBackRow.holds Tryz.pinned (OpenSpec.ofChange entryBackWrong)

/-- 'cringlelaw22.EntryTold': WHATEVER THE INPUT: true; the input reads as it did. -/
def entryToldSpec : ChangeSpec := { name := "entryTold", fn := fun _ => fun
  | [d1, d2, d3] => { results := [.lit (.bool true)], args := [d1, d2, d3] }
  | _ => none }
def entryToldRow : OpenClaim := { program := "ytkjokjogdehonaagreatdoor", sum := "20c73af42f27402ad0b075fe2221f2d30d691c6dc281c5f8e6416623cc97f5e6", func := "cringle/cringlelaw22.EntryTold", spec := "entryTold", inPlace := ["internal/abi.NoEscape", "internal/bytealg.MakeNoZero", "internal/bytealg.IndexByteString", "internal/bytealg.IndexString"], unfollowed := true, recurses := true, named := ["unicode/utf8.first", "unicode/utf8.acceptRanges", "internal/bytealg.MaxLen"], loops := true, apart := false, laid := [("unicode/utf8.acceptRanges", laid_unicode_utf8_acceptRanges), ("unicode/utf8.first", laid_unicode_utf8_first)] }
def EntryToldSaid : Prop := entryToldRow.holds Tryz.pinned (OpenSpec.ofChange entryToldSpec)

/-- ITS FALSE NEIGHBOUR: 'it returns false'. Refute it at one input. -/
def entryToldWrong : ChangeSpec := { name := "entryTold", fn := fun _ => fun
  | [d1, d2, d3] => { results := [.lit (.bool false)], args := [d1, d2, d3] }
  | _ => none }
def EntryToldWrongFalsely : Prop := entryToldRow.holds Tryz.pinned (OpenSpec.ofChange entryToldWrong)

/-- 'cringlelaw25.OpMay': WHATEVER THE INPUT: true; the input reads as it did. -/
def opMaySpec : ChangeSpec := { name := "opMay", fn := fun _ => fun
  | [d1, d2] => { results := [.lit (.bool true)], args := [d1, d2] }
  | _ => none }
def opMayRow : OpenClaim := { program := "ytkjokjogdehonaagreatdoor", sum := "20c73af42f27402ad0b075fe2221f2d30d691c6dc281c5f8e6416623cc97f5e6", func := "cringle/cringlelaw25.OpMay", spec := "opMay", inPlace := ["internal/abi.NoEscape", "internal/bytealg.MakeNoZero", "internal/bytealg.IndexByteString", "internal/bytealg.IndexString"], unfollowed := true, recurses := true, named := ["unicode/utf8.first", "unicode/utf8.acceptRanges", "internal/bytealg.MaxLen"], apart := false, laid := [("unicode/utf8.acceptRanges", laid_unicode_utf8_acceptRanges), ("unicode/utf8.first", laid_unicode_utf8_first)] }
def OpMaySaid : Prop := opMayRow.holds Tryz.pinned (OpenSpec.ofChange opMaySpec)

/-- ITS FALSE NEIGHBOUR: 'it returns false'. Refute it at one input. -/
def opMayWrong : ChangeSpec := { name := "opMay", fn := fun _ => fun
  | [d1, d2] => { results := [.lit (.bool false)], args := [d1, d2] }
  | _ => none }
def OpMayWrongFalsely : Prop := opMayRow.holds Tryz.pinned (OpenSpec.ofChange opMayWrong)

/-- 'cringlelaw25.OpOne': WHATEVER THE INPUT: true; the input reads as it did. -/
def opOneSpec : ChangeSpec := { name := "opOne", fn := fun _ => fun
  | [d] => { results := [.lit (.bool true)], args := [d] }
  | _ => none }
def opOneRow : OpenClaim := { program := "ytkjokjogdehonaagreatdoor", sum := "20c73af42f27402ad0b075fe2221f2d30d691c6dc281c5f8e6416623cc97f5e6", func := "cringle/cringlelaw25.OpOne", spec := "opOne", inPlace := ["internal/abi.NoEscape", "internal/bytealg.MakeNoZero", "internal/bytealg.IndexByteString", "internal/bytealg.IndexString"], unfollowed := true, recurses := true, named := ["unicode/utf8.first", "unicode/utf8.acceptRanges", "internal/bytealg.MaxLen"], apart := false, laid := [("unicode/utf8.acceptRanges", laid_unicode_utf8_acceptRanges), ("unicode/utf8.first", laid_unicode_utf8_first)] }
def OpOneSaid : Prop := opOneRow.holds Tryz.pinned (OpenSpec.ofChange opOneSpec)

/-- ITS FALSE NEIGHBOUR: 'it returns false'. Refute it at one input. -/
def opOneWrong : ChangeSpec := { name := "opOne", fn := fun _ => fun
  | [d] => { results := [.lit (.bool false)], args := [d] }
  | _ => none }
def OpOneWrongFalsely : Prop := opOneRow.holds Tryz.pinned (OpenSpec.ofChange opOneWrong)

/-- 'cringlelaw32.PubBack': WHATEVER THE INPUT: true; the input reads as it did. -/
def pubBackSpec : ChangeSpec := { name := "pubBack", fn := fun _ => fun
  | [d1, d2] => { results := [.lit (.bool true)], args := [d1, d2] }
  | _ => none }
def pubBackRow : OpenClaim := { program := "ytkjokjogdehonaagreatdoor", sum := "20c73af42f27402ad0b075fe2221f2d30d691c6dc281c5f8e6416623cc97f5e6", func := "cringle/cringlelaw32.PubBack", spec := "pubBack", inPlace := ["internal/bytealg.CountString", "internal/bytealg.IndexByteString", "internal/bytealg.IndexString", "internal/abi.NoEscape", "internal/bytealg.MakeNoZero"], unfollowed := true, recurses := true, named := ["unicode/utf8.first", "unicode/utf8.acceptRanges", "internal/bytealg.MaxLen"], apart := false, laid := [("unicode/utf8.acceptRanges", laid_unicode_utf8_acceptRanges), ("unicode/utf8.first", laid_unicode_utf8_first)] }
def PubBackSaid : Prop := pubBackRow.holds Tryz.pinned (OpenSpec.ofChange pubBackSpec)

/-- ITS FALSE NEIGHBOUR: 'it returns false'. Refute it at one input. -/
def pubBackWrong : ChangeSpec := { name := "pubBack", fn := fun _ => fun
  | [d1, d2] => { results := [.lit (.bool false)], args := [d1, d2] }
  | _ => none }
def PubBackWrongFalsely : Prop := pubBackRow.holds Tryz.pinned (OpenSpec.ofChange pubBackWrong)

/-- 'cringlelaw32.PubReads': WHATEVER THE INPUT: true; the input reads as it did. -/
def pubReadsSpec : ChangeSpec := { name := "pubReads", fn := fun _ => fun
  | [d1, d2, d3] => { results := [.lit (.bool true)], args := [d1, d2, d3] }
  | _ => none }
def pubReadsRow : OpenClaim := { program := "ytkjokjogdehonaagreatdoor", sum := "20c73af42f27402ad0b075fe2221f2d30d691c6dc281c5f8e6416623cc97f5e6", func := "cringle/cringlelaw32.PubReads", spec := "pubReads", inPlace := ["internal/bytealg.CountString", "internal/bytealg.IndexByteString", "internal/bytealg.IndexString", "internal/abi.NoEscape", "internal/bytealg.MakeNoZero"], unfollowed := true, recurses := true, named := ["unicode/utf8.first", "unicode/utf8.acceptRanges", "internal/bytealg.MaxLen"], apart := false, laid := [("unicode/utf8.acceptRanges", laid_unicode_utf8_acceptRanges), ("unicode/utf8.first", laid_unicode_utf8_first)] }
def PubReadsSaid : Prop := pubReadsRow.holds Tryz.pinned (OpenSpec.ofChange pubReadsSpec)

/-- ITS FALSE NEIGHBOUR: 'it returns false'. Refute it at one input. -/
def pubReadsWrong : ChangeSpec := { name := "pubReads", fn := fun _ => fun
  | [d1, d2, d3] => { results := [.lit (.bool false)], args := [d1, d2, d3] }
  | _ => none }
def PubReadsWrongFalsely : Prop := pubReadsRow.holds Tryz.pinned (OpenSpec.ofChange pubReadsWrong)

/- THE SECOND FORM. 'bulk': how many values and letters a reading holds, each counted each time it is reached (what is shared counts as often as it is met; a slice's spare places count too). A statement '..UptoSaid' is the law's where the arguments, and the package variables that the reading takes, are together of bulk at most 1048576: NARROWER than '..Said'. Prove '..Said' where nothing that the law and all that it calls make is longer than what came in: it says more and counts as full. Else prove '..UptoSaid'. A law counts once. -/
mutual
def uptoBulk {H : Type} : DataW H → Nat
  | .lit (.string bytes) => bytes.length + 1
  | .lit _ => 1
  | .nil => 1
  | .ptr d => uptoBulk d + 1
  | .slice elems spare => uptoBulkAll elems + uptoBulkAll spare + 1
  | .agg parts => uptoBulkAll parts + 1
  | .iface _ d => uptoBulk d + 1
  | .map entries => uptoBulkEntries entries + 1
  | .held _ => 1
def uptoBulkAll {H : Type} : List (DataW H) → Nat
  | [] => 0
  | d :: r => uptoBulk d + uptoBulkAll r
def uptoBulkEntries {H : Type} : List (Lit × DataW H) → Nat
  | [] => 0
  | x :: r => uptoBulkEntry x + uptoBulkEntries r
def uptoBulkEntry {H : Type} : Lit × DataW H → Nat
  | (.string bytes, d) => bytes.length + uptoBulk d + 1
  | (_, d) => uptoBulk d + 1
 end
def uptoSmall : (H : Type) → List (DataW H) → Bool := fun _ ds => decide (uptoBulkAll ds ≤ 1048576)
def OpenSpec.upto (s : _root_.Go.ChangeSpec) : _root_.Go.OpenSpec := { _root_.Go.OpenSpec.ofChange s with cond := some uptoSmall }

/-- 'cringlelaw07.JsonMakes', WHERE WHAT IT READS IS OF BULK AT MOST 1048576: true; the input reads as it did. -/
def jsonMakesUptoRow : OpenClaim := { program := "ytkjokjogdehonaagreatdoor", sum := "20c73af42f27402ad0b075fe2221f2d30d691c6dc281c5f8e6416623cc97f5e6", func := "cringle/cringlelaw07.JsonMakes", spec := "jsonMakes", inPlace := ["internal/bytealg.IndexByteString", "internal/bytealg.IndexString", "internal/abi.NoEscape"], unfollowed := true, recurses := true, named := ["unicode/utf8.first", "unicode/utf8.acceptRanges", "internal/bytealg.MaxLen"], loops := true, apart := false, laid := [("unicode/utf8.acceptRanges", laid_unicode_utf8_acceptRanges), ("unicode/utf8.first", laid_unicode_utf8_first)], narrowed := true }
def JsonMakesUptoSaid : Prop := jsonMakesUptoRow.holds Tryz.pinned (OpenSpec.upto jsonMakesSpec)

/-- 'cringlelaw22.EntryVals', WHERE WHAT IT READS IS OF BULK AT MOST 1048576: true; the input reads as it did. -/
def entryValsUptoRow : OpenClaim := { program := "ytkjokjogdehonaagreatdoor", sum := "20c73af42f27402ad0b075fe2221f2d30d691c6dc281c5f8e6416623cc97f5e6", func := "cringle/cringlelaw22.EntryVals", spec := "entryVals", inPlace := ["internal/abi.NoEscape", "internal/bytealg.MakeNoZero", "internal/bytealg.IndexByteString", "internal/bytealg.IndexString"], unfollowed := true, recurses := true, named := ["unicode/utf8.first", "unicode/utf8.acceptRanges", "internal/bytealg.MaxLen"], apart := false, laid := [("unicode/utf8.acceptRanges", laid_unicode_utf8_acceptRanges), ("unicode/utf8.first", laid_unicode_utf8_first)], narrowed := true }
def EntryValsUptoSaid : Prop := entryValsUptoRow.holds Tryz.pinned (OpenSpec.upto entryValsSpec)

/-- 'cringlelaw22.EntryParses', WHERE WHAT IT READS IS OF BULK AT MOST 1048576: true; the input reads as it did. -/
def entryParsesUptoRow : OpenClaim := { program := "ytkjokjogdehonaagreatdoor", sum := "20c73af42f27402ad0b075fe2221f2d30d691c6dc281c5f8e6416623cc97f5e6", func := "cringle/cringlelaw22.EntryParses", spec := "entryParses", inPlace := ["internal/abi.NoEscape", "internal/bytealg.MakeNoZero", "internal/bytealg.IndexByteString", "internal/bytealg.IndexString"], unfollowed := true, recurses := true, named := ["unicode/utf8.first", "unicode/utf8.acceptRanges", "internal/bytealg.MaxLen"], apart := false, laid := [("unicode/utf8.acceptRanges", laid_unicode_utf8_acceptRanges), ("unicode/utf8.first", laid_unicode_utf8_first)], narrowed := true }
def EntryParsesUptoSaid : Prop := entryParsesUptoRow.holds Tryz.pinned (OpenSpec.upto entryParsesSpec)

/-- 'cringlelaw22.EntryBack', WHERE WHAT IT READS IS OF BULK AT MOST 1048576: true; the input reads as it did. -/
def entryBackUptoRow : OpenClaim := { program := "ytkjokjogdehonaagreatdoor", sum := "20c73af42f27402ad0b075fe2221f2d30d691c6dc281c5f8e6416623cc97f5e6", func := "cringle/cringlelaw22.EntryBack", spec := "entryBack", inPlace := ["internal/abi.NoEscape", "internal/bytealg.MakeNoZero", "internal/bytealg.IndexByteString", "internal/bytealg.IndexString"], unfollowed := true, recurses := true, named := ["unicode/utf8.first", "unicode/utf8.acceptRanges", "internal/bytealg.MaxLen"], apart := false, laid := [("unicode/utf8.acceptRanges", laid_unicode_utf8_acceptRanges), ("unicode/utf8.first", laid_unicode_utf8_first)], narrowed := true }
def EntryBackUptoSaid : Prop := entryBackUptoRow.holds Tryz.pinned (OpenSpec.upto entryBackSpec)

/-- 'cringlelaw22.EntryTold', WHERE WHAT IT READS IS OF BULK AT MOST 1048576: true; the input reads as it did. -/
def entryToldUptoRow : OpenClaim := { program := "ytkjokjogdehonaagreatdoor", sum := "20c73af42f27402ad0b075fe2221f2d30d691c6dc281c5f8e6416623cc97f5e6", func := "cringle/cringlelaw22.EntryTold", spec := "entryTold", inPlace := ["internal/abi.NoEscape", "internal/bytealg.MakeNoZero", "internal/bytealg.IndexByteString", "internal/bytealg.IndexString"], unfollowed := true, recurses := true, named := ["unicode/utf8.first", "unicode/utf8.acceptRanges", "internal/bytealg.MaxLen"], loops := true, apart := false, laid := [("unicode/utf8.acceptRanges", laid_unicode_utf8_acceptRanges), ("unicode/utf8.first", laid_unicode_utf8_first)], narrowed := true }
def EntryToldUptoSaid : Prop := entryToldUptoRow.holds Tryz.pinned (OpenSpec.upto entryToldSpec)

/-- 'cringlelaw25.OpMay', WHERE WHAT IT READS IS OF BULK AT MOST 1048576: true; the input reads as it did. -/
def opMayUptoRow : OpenClaim := { program := "ytkjokjogdehonaagreatdoor", sum := "20c73af42f27402ad0b075fe2221f2d30d691c6dc281c5f8e6416623cc97f5e6", func := "cringle/cringlelaw25.OpMay", spec := "opMay", inPlace := ["internal/abi.NoEscape", "internal/bytealg.MakeNoZero", "internal/bytealg.IndexByteString", "internal/bytealg.IndexString"], unfollowed := true, recurses := true, named := ["unicode/utf8.first", "unicode/utf8.acceptRanges", "internal/bytealg.MaxLen"], apart := false, laid := [("unicode/utf8.acceptRanges", laid_unicode_utf8_acceptRanges), ("unicode/utf8.first", laid_unicode_utf8_first)], narrowed := true }
def OpMayUptoSaid : Prop := opMayUptoRow.holds Tryz.pinned (OpenSpec.upto opMaySpec)

/-- 'cringlelaw25.OpOne', WHERE WHAT IT READS IS OF BULK AT MOST 1048576: true; the input reads as it did. -/
def opOneUptoRow : OpenClaim := { program := "ytkjokjogdehonaagreatdoor", sum := "20c73af42f27402ad0b075fe2221f2d30d691c6dc281c5f8e6416623cc97f5e6", func := "cringle/cringlelaw25.OpOne", spec := "opOne", inPlace := ["internal/abi.NoEscape", "internal/bytealg.MakeNoZero", "internal/bytealg.IndexByteString", "internal/bytealg.IndexString"], unfollowed := true, recurses := true, named := ["unicode/utf8.first", "unicode/utf8.acceptRanges", "internal/bytealg.MaxLen"], apart := false, laid := [("unicode/utf8.acceptRanges", laid_unicode_utf8_acceptRanges), ("unicode/utf8.first", laid_unicode_utf8_first)], narrowed := true }
def OpOneUptoSaid : Prop := opOneUptoRow.holds Tryz.pinned (OpenSpec.upto opOneSpec)

/-- 'cringlelaw32.PubBack', WHERE WHAT IT READS IS OF BULK AT MOST 1048576: true; the input reads as it did. -/
def pubBackUptoRow : OpenClaim := { program := "ytkjokjogdehonaagreatdoor", sum := "20c73af42f27402ad0b075fe2221f2d30d691c6dc281c5f8e6416623cc97f5e6", func := "cringle/cringlelaw32.PubBack", spec := "pubBack", inPlace := ["internal/bytealg.CountString", "internal/bytealg.IndexByteString", "internal/bytealg.IndexString", "internal/abi.NoEscape", "internal/bytealg.MakeNoZero"], unfollowed := true, recurses := true, named := ["unicode/utf8.first", "unicode/utf8.acceptRanges", "internal/bytealg.MaxLen"], apart := false, laid := [("unicode/utf8.acceptRanges", laid_unicode_utf8_acceptRanges), ("unicode/utf8.first", laid_unicode_utf8_first)], narrowed := true }
def PubBackUptoSaid : Prop := pubBackUptoRow.holds Tryz.pinned (OpenSpec.upto pubBackSpec)

/-- 'cringlelaw32.PubReads', WHERE WHAT IT READS IS OF BULK AT MOST 1048576: true; the input reads as it did. -/
def pubReadsUptoRow : OpenClaim := { program := "ytkjokjogdehonaagreatdoor", sum := "20c73af42f27402ad0b075fe2221f2d30d691c6dc281c5f8e6416623cc97f5e6", func := "cringle/cringlelaw32.PubReads", spec := "pubReads", inPlace := ["internal/bytealg.CountString", "internal/bytealg.IndexByteString", "internal/bytealg.IndexString", "internal/abi.NoEscape", "internal/bytealg.MakeNoZero"], unfollowed := true, recurses := true, named := ["unicode/utf8.first", "unicode/utf8.acceptRanges", "internal/bytealg.MaxLen"], apart := false, laid := [("unicode/utf8.acceptRanges", laid_unicode_utf8_acceptRanges), ("unicode/utf8.first", laid_unicode_utf8_first)], narrowed := true }
def PubReadsUptoSaid : Prop := pubReadsUptoRow.holds Tryz.pinned (OpenSpec.upto pubReadsSpec)

end Rows
end Go.Proofs.YtkjokjogdehonaaGreatDoor
