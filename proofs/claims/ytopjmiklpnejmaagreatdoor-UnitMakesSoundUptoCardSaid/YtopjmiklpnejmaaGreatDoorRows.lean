/-
  NARROWER THAN 'FOR EVERY INPUT', by the rows' own cells (each row's printed sentence says how): UnitNames: laid · UnitChecks: laid · UnitInterns: laid · UnitCompares: laid · UnitRenames: laid · UnitTells: laid · UnitReads: laid · UnitGuards: laid · UnitStrips: laid · UnitWrites: laid · UnitMakesSound: laid.
  DERIVED. THE GIVEN ROWS OF THIS SEAT. 11 by the template 'for every input the law returns true; each argument reads behind the call as it read before'; 0 by the template 'total and deterministic' (their statements: YtopjmiklpnejmaaGreatDoorTotals.lean).
  GIVEN WITH THE SEED: the statements are not yours to turn. If you find one false, say at which input.
  Laid BY PROGRAM, IN A SANDBOX (cutbox-rows.mjs): the forced cells as the released guide's own fill.sh prints them over the translation 72417724f11a6c35… (all of the seat's roots in one cut). By AI agents, Wed Nov 11 2026. No macro, syntax, notation, axiom, sorry.
-/
import Derived.Test.YtopjmiklpnejmaaGreatDoorChecked
import GoSem.PinnedTables
import GoSem.Claim
import GoSem.ClaimJoined
import GoSem.ClaimMapViews
import Derived.JoinedTies
import Derived.KernelRfl
namespace Go.Proofs.YtopjmiklpnejmaaGreatDoor
/- THE CELL 'sum', in the pinned program and in every row, IS THE sha256 OF THE DUMP (.gsa) THAT YtopjmiklpnejmaaGreatDoorProg.lean LOADS. Nothing in Lean hashes anything: it is a label: what it is worth is what the hold of that sum in a sandbox is worth. -/
noncomputable def Tryz.pinned : Pinned := { name := "ytopjmiklpnejmaagreatdoor", sum := "72417724f11a6c35cfff21561a421cf86c1a64b80c8d28c8586806c35b27fb08", checked := Tryz.checked }
namespace Rows
def none {H : Type} : Left H := { results := [], args := [] }

/- WHAT THE LISTED PACKAGE-LEVEL VARIABLES READ AS WHEN THE CALL BEGINS. Each datum BY PROGRAM (the guide's laid-datum.mjs) off the statement by which the dump's own 'gosem.cut.vars' lays the variable. In a bare row this is a premise. The card (YtopjmiklpnejmaaGreatDoorCards.lean) ties it to the program's text. -/
def laid_unicode_utf8_acceptRanges {H : Type} : DataW H := .agg [.agg [.lit (.int .u8 128), .lit (.int .u8 191)], .agg [.lit (.int .u8 160), .lit (.int .u8 191)], .agg [.lit (.int .u8 128), .lit (.int .u8 159)], .agg [.lit (.int .u8 144), .lit (.int .u8 191)], .agg [.lit (.int .u8 128), .lit (.int .u8 143)], .agg [.lit (.int .u8 0), .lit (.int .u8 0)], .agg [.lit (.int .u8 0), .lit (.int .u8 0)], .agg [.lit (.int .u8 0), .lit (.int .u8 0)], .agg [.lit (.int .u8 0), .lit (.int .u8 0)], .agg [.lit (.int .u8 0), .lit (.int .u8 0)], .agg [.lit (.int .u8 0), .lit (.int .u8 0)], .agg [.lit (.int .u8 0), .lit (.int .u8 0)], .agg [.lit (.int .u8 0), .lit (.int .u8 0)], .agg [.lit (.int .u8 0), .lit (.int .u8 0)], .agg [.lit (.int .u8 0), .lit (.int .u8 0)], .agg [.lit (.int .u8 0), .lit (.int .u8 0)]]
/-- One of Go's own tables, pinned by name: the form's constant. -/
def laid_unicode_utf8_first : DataW Unit := Go.Pinned.utf8First

/-- 'isochronlaw04.UnitNames': WHATEVER THE INPUT: true; the input reads as it did. -/
def unitNamesSpec : ChangeSpec := { name := "unitNames", fn := fun _ => fun
  | [d] => { results := [.lit (.bool true)], args := [d] }
  | _ => none }
def unitNamesRow : OpenClaim := { program := "ytopjmiklpnejmaagreatdoor", sum := "72417724f11a6c35cfff21561a421cf86c1a64b80c8d28c8586806c35b27fb08", func := "isochron/isochronlaw04.UnitNames", spec := "unitNames", inPlace := ["internal/bytealg.CountString", "internal/bytealg.IndexByteString", "internal/bytealg.IndexString", "internal/abi.NoEscape", "internal/bytealg.MakeNoZero"], unfollowed := true, recurses := true, named := ["unicode/utf8.first", "unicode/utf8.acceptRanges", "internal/bytealg.MaxLen"], apart := false, laid := [("unicode/utf8.acceptRanges", laid_unicode_utf8_acceptRanges), ("unicode/utf8.first", laid_unicode_utf8_first)] }
def UnitNamesSaid : Prop := unitNamesRow.holds Tryz.pinned (OpenSpec.ofChange unitNamesSpec)

/-- ITS FALSE NEIGHBOUR: 'it returns false'. Refute it at one input. -/
def unitNamesWrong : ChangeSpec := { name := "unitNames", fn := fun _ => fun
  | [d] => { results := [.lit (.bool false)], args := [d] }
  | _ => none }
def UnitNamesWrongFalsely : Prop := unitNamesRow.holds Tryz.pinned (OpenSpec.ofChange unitNamesWrong)

/-- 'isochronlaw04.UnitChecks': WHATEVER THE INPUT: true; the input reads as it did. -/
def unitChecksSpec : ChangeSpec := { name := "unitChecks", fn := fun _ => fun
  | [d] => { results := [.lit (.bool true)], args := [d] }
  | _ => none }
def unitChecksRow : OpenClaim := { program := "ytopjmiklpnejmaagreatdoor", sum := "72417724f11a6c35cfff21561a421cf86c1a64b80c8d28c8586806c35b27fb08", func := "isochron/isochronlaw04.UnitChecks", spec := "unitChecks", inPlace := ["internal/bytealg.CountString", "internal/bytealg.IndexByteString", "internal/bytealg.IndexString", "internal/abi.NoEscape", "internal/bytealg.MakeNoZero"], unfollowed := true, recurses := true, named := ["unicode/utf8.first", "unicode/utf8.acceptRanges", "internal/bytealg.MaxLen"], apart := false, laid := [("unicode/utf8.acceptRanges", laid_unicode_utf8_acceptRanges), ("unicode/utf8.first", laid_unicode_utf8_first)] }
def UnitChecksSaid : Prop := unitChecksRow.holds Tryz.pinned (OpenSpec.ofChange unitChecksSpec)

/-- ITS FALSE NEIGHBOUR: 'it returns false'. Refute it at one input. -/
def unitChecksWrong : ChangeSpec := { name := "unitChecks", fn := fun _ => fun
  | [d] => { results := [.lit (.bool false)], args := [d] }
  | _ => none }
def UnitChecksWrongFalsely : Prop := unitChecksRow.holds Tryz.pinned (OpenSpec.ofChange unitChecksWrong)

/-- 'isochronlaw04.UnitInterns': WHATEVER THE INPUT: true; the input reads as it did. -/
def unitInternsSpec : ChangeSpec := { name := "unitInterns", fn := fun _ => fun
  | [d1, d2] => { results := [.lit (.bool true)], args := [d1, d2] }
  | _ => none }
def unitInternsRow : OpenClaim := { program := "ytopjmiklpnejmaagreatdoor", sum := "72417724f11a6c35cfff21561a421cf86c1a64b80c8d28c8586806c35b27fb08", func := "isochron/isochronlaw04.UnitInterns", spec := "unitInterns", inPlace := ["internal/bytealg.CountString", "internal/bytealg.IndexByteString", "internal/bytealg.IndexString", "internal/abi.NoEscape", "internal/bytealg.MakeNoZero"], unfollowed := true, recurses := true, named := ["unicode/utf8.first", "unicode/utf8.acceptRanges", "internal/bytealg.MaxLen"], apart := false, laid := [("unicode/utf8.acceptRanges", laid_unicode_utf8_acceptRanges), ("unicode/utf8.first", laid_unicode_utf8_first)] }
def UnitInternsSaid : Prop := unitInternsRow.holds Tryz.pinned (OpenSpec.ofChange unitInternsSpec)

/-- ITS FALSE NEIGHBOUR: 'it returns false'. Refute it at one input. -/
def unitInternsWrong : ChangeSpec := { name := "unitInterns", fn := fun _ => fun
  | [d1, d2] => { results := [.lit (.bool false)], args := [d1, d2] }
  | _ => none }
def UnitInternsWrongFalsely : Prop := unitInternsRow.holds Tryz.pinned (OpenSpec.ofChange unitInternsWrong)

/-- 'isochronlaw04.UnitCompares': WHATEVER THE INPUT: true; the input reads as it did. -/
def unitComparesSpec : ChangeSpec := { name := "unitCompares", fn := fun _ => fun
  | [d1, d2] => { results := [.lit (.bool true)], args := [d1, d2] }
  | _ => none }
def unitComparesRow : OpenClaim := { program := "ytopjmiklpnejmaagreatdoor", sum := "72417724f11a6c35cfff21561a421cf86c1a64b80c8d28c8586806c35b27fb08", func := "isochron/isochronlaw04.UnitCompares", spec := "unitCompares", inPlace := ["internal/bytealg.CountString", "internal/bytealg.IndexByteString", "internal/bytealg.IndexString", "internal/abi.NoEscape", "internal/bytealg.MakeNoZero"], unfollowed := true, recurses := true, named := ["unicode/utf8.first", "unicode/utf8.acceptRanges", "internal/bytealg.MaxLen"], apart := false, laid := [("unicode/utf8.acceptRanges", laid_unicode_utf8_acceptRanges), ("unicode/utf8.first", laid_unicode_utf8_first)] }
def UnitComparesSaid : Prop := unitComparesRow.holds Tryz.pinned (OpenSpec.ofChange unitComparesSpec)

/-- ITS FALSE NEIGHBOUR: 'it returns false'. Refute it at one input. -/
def unitComparesWrong : ChangeSpec := { name := "unitCompares", fn := fun _ => fun
  | [d1, d2] => { results := [.lit (.bool false)], args := [d1, d2] }
  | _ => none }
def UnitComparesWrongFalsely : Prop := unitComparesRow.holds Tryz.pinned (OpenSpec.ofChange unitComparesWrong)

/-- 'isochronlaw04.UnitRenames': WHATEVER THE INPUT: true; the input reads as it did. -/
def unitRenamesSpec : ChangeSpec := { name := "unitRenames", fn := fun _ => fun
  | [d1, d2] => { results := [.lit (.bool true)], args := [d1, d2] }
  | _ => none }
def unitRenamesRow : OpenClaim := { program := "ytopjmiklpnejmaagreatdoor", sum := "72417724f11a6c35cfff21561a421cf86c1a64b80c8d28c8586806c35b27fb08", func := "isochron/isochronlaw04.UnitRenames", spec := "unitRenames", inPlace := ["internal/bytealg.CountString", "internal/bytealg.IndexByteString", "internal/bytealg.IndexString", "internal/abi.NoEscape", "internal/bytealg.MakeNoZero"], unfollowed := true, recurses := true, named := ["unicode/utf8.first", "unicode/utf8.acceptRanges", "internal/bytealg.MaxLen"], apart := false, laid := [("unicode/utf8.acceptRanges", laid_unicode_utf8_acceptRanges), ("unicode/utf8.first", laid_unicode_utf8_first)] }
def UnitRenamesSaid : Prop := unitRenamesRow.holds Tryz.pinned (OpenSpec.ofChange unitRenamesSpec)

/-- ITS FALSE NEIGHBOUR: 'it returns false'. Refute it at one input. -/
def unitRenamesWrong : ChangeSpec := { name := "unitRenames", fn := fun _ => fun
  | [d1, d2] => { results := [.lit (.bool false)], args := [d1, d2] }
  | _ => none }
def UnitRenamesWrongFalsely : Prop := unitRenamesRow.holds Tryz.pinned (OpenSpec.ofChange unitRenamesWrong)

/-- 'isochronlaw04.UnitTells': WHATEVER THE INPUT: true; the input reads as it did. -/
def unitTellsSpec : ChangeSpec := { name := "unitTells", fn := fun _ => fun
  | [d] => { results := [.lit (.bool true)], args := [d] }
  | _ => none }
def unitTellsRow : OpenClaim := { program := "ytopjmiklpnejmaagreatdoor", sum := "72417724f11a6c35cfff21561a421cf86c1a64b80c8d28c8586806c35b27fb08", func := "isochron/isochronlaw04.UnitTells", spec := "unitTells", inPlace := ["internal/bytealg.CountString", "internal/bytealg.IndexByteString", "internal/bytealg.IndexString", "internal/abi.NoEscape", "internal/bytealg.MakeNoZero"], unfollowed := true, recurses := true, named := ["unicode/utf8.first", "unicode/utf8.acceptRanges", "internal/bytealg.MaxLen"], apart := false, laid := [("unicode/utf8.acceptRanges", laid_unicode_utf8_acceptRanges), ("unicode/utf8.first", laid_unicode_utf8_first)] }
def UnitTellsSaid : Prop := unitTellsRow.holds Tryz.pinned (OpenSpec.ofChange unitTellsSpec)

/-- ITS FALSE NEIGHBOUR: 'it returns false'. Refute it at one input. -/
def unitTellsWrong : ChangeSpec := { name := "unitTells", fn := fun _ => fun
  | [d] => { results := [.lit (.bool false)], args := [d] }
  | _ => none }
def UnitTellsWrongFalsely : Prop := unitTellsRow.holds Tryz.pinned (OpenSpec.ofChange unitTellsWrong)

/-- 'isochronlaw04.UnitReads': WHATEVER THE INPUT: true; the input reads as it did. -/
def unitReadsSpec : ChangeSpec := { name := "unitReads", fn := fun _ => fun
  | [d] => { results := [.lit (.bool true)], args := [d] }
  | _ => none }
def unitReadsRow : OpenClaim := { program := "ytopjmiklpnejmaagreatdoor", sum := "72417724f11a6c35cfff21561a421cf86c1a64b80c8d28c8586806c35b27fb08", func := "isochron/isochronlaw04.UnitReads", spec := "unitReads", inPlace := ["internal/bytealg.CountString", "internal/bytealg.IndexByteString", "internal/bytealg.IndexString", "internal/abi.NoEscape", "internal/bytealg.MakeNoZero"], unfollowed := true, recurses := true, named := ["unicode/utf8.first", "unicode/utf8.acceptRanges", "internal/bytealg.MaxLen"], apart := false, laid := [("unicode/utf8.acceptRanges", laid_unicode_utf8_acceptRanges), ("unicode/utf8.first", laid_unicode_utf8_first)] }
def UnitReadsSaid : Prop := unitReadsRow.holds Tryz.pinned (OpenSpec.ofChange unitReadsSpec)

/-- ITS FALSE NEIGHBOUR: 'it returns false'. Refute it at one input. -/
def unitReadsWrong : ChangeSpec := { name := "unitReads", fn := fun _ => fun
  | [d] => { results := [.lit (.bool false)], args := [d] }
  | _ => none }
def UnitReadsWrongFalsely : Prop := unitReadsRow.holds Tryz.pinned (OpenSpec.ofChange unitReadsWrong)

/-- 'isochronlaw04.UnitGuards': WHATEVER THE INPUT: true; the input reads as it did. -/
def unitGuardsSpec : ChangeSpec := { name := "unitGuards", fn := fun _ => fun
  | [d1, d2, d3, d4] => { results := [.lit (.bool true)], args := [d1, d2, d3, d4] }
  | _ => none }
def unitGuardsRow : OpenClaim := { program := "ytopjmiklpnejmaagreatdoor", sum := "72417724f11a6c35cfff21561a421cf86c1a64b80c8d28c8586806c35b27fb08", func := "isochron/isochronlaw04.UnitGuards", spec := "unitGuards", inPlace := ["internal/bytealg.CountString", "internal/bytealg.IndexByteString", "internal/bytealg.IndexString", "internal/abi.NoEscape", "internal/bytealg.MakeNoZero"], unfollowed := true, recurses := true, named := ["unicode/utf8.first", "unicode/utf8.acceptRanges", "internal/bytealg.MaxLen"], apart := false, laid := [("unicode/utf8.acceptRanges", laid_unicode_utf8_acceptRanges), ("unicode/utf8.first", laid_unicode_utf8_first)] }
def UnitGuardsSaid : Prop := unitGuardsRow.holds Tryz.pinned (OpenSpec.ofChange unitGuardsSpec)

/-- ITS FALSE NEIGHBOUR: 'it returns false'. Refute it at one input. -/
def unitGuardsWrong : ChangeSpec := { name := "unitGuards", fn := fun _ => fun
  | [d1, d2, d3, d4] => { results := [.lit (.bool false)], args := [d1, d2, d3, d4] }
  | _ => none }
def UnitGuardsWrongFalsely : Prop := unitGuardsRow.holds Tryz.pinned (OpenSpec.ofChange unitGuardsWrong)

/-- 'isochronlaw04.UnitStrips': WHATEVER THE INPUT: true; the input reads as it did. -/
def unitStripsSpec : ChangeSpec := { name := "unitStrips", fn := fun _ => fun
  | [d] => { results := [.lit (.bool true)], args := [d] }
  | _ => none }
def unitStripsRow : OpenClaim := { program := "ytopjmiklpnejmaagreatdoor", sum := "72417724f11a6c35cfff21561a421cf86c1a64b80c8d28c8586806c35b27fb08", func := "isochron/isochronlaw04.UnitStrips", spec := "unitStrips", inPlace := ["internal/bytealg.CountString", "internal/bytealg.IndexByteString", "internal/bytealg.IndexString", "internal/abi.NoEscape", "internal/bytealg.MakeNoZero"], unfollowed := true, recurses := true, named := ["unicode/utf8.first", "unicode/utf8.acceptRanges", "internal/bytealg.MaxLen"], apart := false, laid := [("unicode/utf8.acceptRanges", laid_unicode_utf8_acceptRanges), ("unicode/utf8.first", laid_unicode_utf8_first)] }
def UnitStripsSaid : Prop := unitStripsRow.holds Tryz.pinned (OpenSpec.ofChange unitStripsSpec)

/-- ITS FALSE NEIGHBOUR: 'it returns false'. Refute it at one input. -/
def unitStripsWrong : ChangeSpec := { name := "unitStrips", fn := fun _ => fun
  | [d] => { results := [.lit (.bool false)], args := [d] }
  | _ => none }
def UnitStripsWrongFalsely : Prop := unitStripsRow.holds Tryz.pinned (OpenSpec.ofChange unitStripsWrong)

/-- 'isochronlaw04.UnitWrites': WHATEVER THE INPUT: true; the input reads as it did. -/
def unitWritesSpec : ChangeSpec := { name := "unitWrites", fn := fun _ => fun
  | [d] => { results := [.lit (.bool true)], args := [d] }
  | _ => none }
def unitWritesRow : OpenClaim := { program := "ytopjmiklpnejmaagreatdoor", sum := "72417724f11a6c35cfff21561a421cf86c1a64b80c8d28c8586806c35b27fb08", func := "isochron/isochronlaw04.UnitWrites", spec := "unitWrites", inPlace := ["internal/bytealg.CountString", "internal/bytealg.IndexByteString", "internal/bytealg.IndexString", "internal/abi.NoEscape", "internal/bytealg.MakeNoZero"], unfollowed := true, recurses := true, named := ["unicode/utf8.first", "unicode/utf8.acceptRanges", "internal/bytealg.MaxLen"], apart := false, laid := [("unicode/utf8.acceptRanges", laid_unicode_utf8_acceptRanges), ("unicode/utf8.first", laid_unicode_utf8_first)] }
def UnitWritesSaid : Prop := unitWritesRow.holds Tryz.pinned (OpenSpec.ofChange unitWritesSpec)

/-- ITS FALSE NEIGHBOUR: 'it returns false'. Refute it at one input. -/
def unitWritesWrong : ChangeSpec := { name := "unitWrites", fn := fun _ => fun
  | [d] => { results := [.lit (.bool false)], args := [d] }
  | _ => none }
def UnitWritesWrongFalsely : Prop := unitWritesRow.holds Tryz.pinned (OpenSpec.ofChange unitWritesWrong)

/-- 'isochronlaw04.UnitMakesSound': WHATEVER THE INPUT: true; the input reads as it did. -/
def unitMakesSoundSpec : ChangeSpec := { name := "unitMakesSound", fn := fun _ => fun
  | [d1, d2] => { results := [.lit (.bool true)], args := [d1, d2] }
  | _ => none }
def unitMakesSoundRow : OpenClaim := { program := "ytopjmiklpnejmaagreatdoor", sum := "72417724f11a6c35cfff21561a421cf86c1a64b80c8d28c8586806c35b27fb08", func := "isochron/isochronlaw04.UnitMakesSound", spec := "unitMakesSound", inPlace := ["internal/bytealg.CountString", "internal/bytealg.IndexByteString", "internal/bytealg.IndexString", "internal/abi.NoEscape", "internal/bytealg.MakeNoZero"], unfollowed := true, recurses := true, named := ["unicode/utf8.first", "unicode/utf8.acceptRanges", "internal/bytealg.MaxLen"], apart := false, laid := [("unicode/utf8.acceptRanges", laid_unicode_utf8_acceptRanges), ("unicode/utf8.first", laid_unicode_utf8_first)] }
def UnitMakesSoundSaid : Prop := unitMakesSoundRow.holds Tryz.pinned (OpenSpec.ofChange unitMakesSoundSpec)

/-- ITS FALSE NEIGHBOUR: 'it returns false'. Refute it at one input. -/
def unitMakesSoundWrong : ChangeSpec := { name := "unitMakesSound", fn := fun _ => fun
  | [d1, d2] => { results := [.lit (.bool false)], args := [d1, d2] }
  | _ => none }
def UnitMakesSoundWrongFalsely : Prop := unitMakesSoundRow.holds Tryz.pinned (OpenSpec.ofChange unitMakesSoundWrong)

/- THE SECOND FORM. 'bulk': how many values and letters a reading holds, each counted each time it is reached (what is shared counts as often as it is met; a slice's spare places count too). A statement '..UptoSaid' is the law's where the arguments, and the package variables that the reading takes, are together of bulk at most 1048576: NARROWER than '..Said'. Prove '..Said' where nothing that the law and all that it calls make is longer than what came in: it says more and counts as full. Else prove '..UptoSaid'. A law counts once. -/
mutual
def uptoBulk {H : Type} : DataW H → Nat
  | .lit (.string bytes) => bytes.length + 1
  | .lit _ => 1
  | .nil => 1
  | .ptr d => uptoBulk d + 1
  | .slice elems spare => uptoBulkAll elems + uptoBulkAll spare + 1
  | .agg parts => uptoBulkAll parts + 1
  | .iface _ d => uptoBulk d + 1
  | .map entries => uptoBulkEntries entries + 1
  | .held _ => 1
def uptoBulkAll {H : Type} : List (DataW H) → Nat
  | [] => 0
  | d :: r => uptoBulk d + uptoBulkAll r
def uptoBulkEntries {H : Type} : List (Lit × DataW H) → Nat
  | [] => 0
  | x :: r => uptoBulkEntry x + uptoBulkEntries r
def uptoBulkEntry {H : Type} : Lit × DataW H → Nat
  | (.string bytes, d) => bytes.length + uptoBulk d + 1
  | (_, d) => uptoBulk d + 1
 end
def uptoSmall : (H : Type) → List (DataW H) → Bool := fun _ ds => decide (uptoBulkAll ds ≤ 1048576)
def OpenSpec.upto (s : _root_.Go.ChangeSpec) : _root_.Go.OpenSpec := { _root_.Go.OpenSpec.ofChange s with cond := some uptoSmall }

/-- 'isochronlaw04.UnitNames', WHERE WHAT IT READS IS OF BULK AT MOST 1048576: true; the input reads as it did. -/
def unitNamesUptoRow : OpenClaim := { program := "ytopjmiklpnejmaagreatdoor", sum := "72417724f11a6c35cfff21561a421cf86c1a64b80c8d28c8586806c35b27fb08", func := "isochron/isochronlaw04.UnitNames", spec := "unitNames", inPlace := ["internal/bytealg.CountString", "internal/bytealg.IndexByteString", "internal/bytealg.IndexString", "internal/abi.NoEscape", "internal/bytealg.MakeNoZero"], unfollowed := true, recurses := true, named := ["unicode/utf8.first", "unicode/utf8.acceptRanges", "internal/bytealg.MaxLen"], apart := false, laid := [("unicode/utf8.acceptRanges", laid_unicode_utf8_acceptRanges), ("unicode/utf8.first", laid_unicode_utf8_first)], narrowed := true }
def UnitNamesUptoSaid : Prop := unitNamesUptoRow.holds Tryz.pinned (OpenSpec.upto unitNamesSpec)

/-- 'isochronlaw04.UnitChecks', WHERE WHAT IT READS IS OF BULK AT MOST 1048576: true; the input reads as it did. -/
def unitChecksUptoRow : OpenClaim := { program := "ytopjmiklpnejmaagreatdoor", sum := "72417724f11a6c35cfff21561a421cf86c1a64b80c8d28c8586806c35b27fb08", func := "isochron/isochronlaw04.UnitChecks", spec := "unitChecks", inPlace := ["internal/bytealg.CountString", "internal/bytealg.IndexByteString", "internal/bytealg.IndexString", "internal/abi.NoEscape", "internal/bytealg.MakeNoZero"], unfollowed := true, recurses := true, named := ["unicode/utf8.first", "unicode/utf8.acceptRanges", "internal/bytealg.MaxLen"], apart := false, laid := [("unicode/utf8.acceptRanges", laid_unicode_utf8_acceptRanges), ("unicode/utf8.first", laid_unicode_utf8_first)], narrowed := true }
def UnitChecksUptoSaid : Prop := unitChecksUptoRow.holds Tryz.pinned (OpenSpec.upto unitChecksSpec)

/-- 'isochronlaw04.UnitInterns', WHERE WHAT IT READS IS OF BULK AT MOST 1048576: true; the input reads as it did. -/
def unitInternsUptoRow : OpenClaim := { program := "ytopjmiklpnejmaagreatdoor", sum := "72417724f11a6c35cfff21561a421cf86c1a64b80c8d28c8586806c35b27fb08", func := "isochron/isochronlaw04.UnitInterns", spec := "unitInterns", inPlace := ["internal/bytealg.CountString", "internal/bytealg.IndexByteString", "internal/bytealg.IndexString", "internal/abi.NoEscape", "internal/bytealg.MakeNoZero"], unfollowed := true, recurses := true, named := ["unicode/utf8.first", "unicode/utf8.acceptRanges", "internal/bytealg.MaxLen"], apart := false, laid := [("unicode/utf8.acceptRanges", laid_unicode_utf8_acceptRanges), ("unicode/utf8.first", laid_unicode_utf8_first)], narrowed := true }
def UnitInternsUptoSaid : Prop := unitInternsUptoRow.holds Tryz.pinned (OpenSpec.upto unitInternsSpec)

/-- 'isochronlaw04.UnitCompares', WHERE WHAT IT READS IS OF BULK AT MOST 1048576: true; the input reads as it did. -/
def unitComparesUptoRow : OpenClaim := { program := "ytopjmiklpnejmaagreatdoor", sum := "72417724f11a6c35cfff21561a421cf86c1a64b80c8d28c8586806c35b27fb08", func := "isochron/isochronlaw04.UnitCompares", spec := "unitCompares", inPlace := ["internal/bytealg.CountString", "internal/bytealg.IndexByteString", "internal/bytealg.IndexString", "internal/abi.NoEscape", "internal/bytealg.MakeNoZero"], unfollowed := true, recurses := true, named := ["unicode/utf8.first", "unicode/utf8.acceptRanges", "internal/bytealg.MaxLen"], apart := false, laid := [("unicode/utf8.acceptRanges", laid_unicode_utf8_acceptRanges), ("unicode/utf8.first", laid_unicode_utf8_first)], narrowed := true }
def UnitComparesUptoSaid : Prop := unitComparesUptoRow.holds Tryz.pinned (OpenSpec.upto unitComparesSpec)

/-- 'isochronlaw04.UnitRenames', WHERE WHAT IT READS IS OF BULK AT MOST 1048576: true; the input reads as it did. -/
def unitRenamesUptoRow : OpenClaim := { program := "ytopjmiklpnejmaagreatdoor", sum := "72417724f11a6c35cfff21561a421cf86c1a64b80c8d28c8586806c35b27fb08", func := "isochron/isochronlaw04.UnitRenames", spec := "unitRenames", inPlace := ["internal/bytealg.CountString", "internal/bytealg.IndexByteString", "internal/bytealg.IndexString", "internal/abi.NoEscape", "internal/bytealg.MakeNoZero"], unfollowed := true, recurses := true, named := ["unicode/utf8.first", "unicode/utf8.acceptRanges", "internal/bytealg.MaxLen"], apart := false, laid := [("unicode/utf8.acceptRanges", laid_unicode_utf8_acceptRanges), ("unicode/utf8.first", laid_unicode_utf8_first)], narrowed := true }
def UnitRenamesUptoSaid : Prop := unitRenamesUptoRow.holds Tryz.pinned (OpenSpec.upto unitRenamesSpec)

/-- 'isochronlaw04.UnitTells', WHERE WHAT IT READS IS OF BULK AT MOST 1048576: true; the input reads as it did. -/
def unitTellsUptoRow : OpenClaim := { program := "ytopjmiklpnejmaagreatdoor", sum := "72417724f11a6c35cfff21561a421cf86c1a64b80c8d28c8586806c35b27fb08", func := "isochron/isochronlaw04.UnitTells", spec := "unitTells", inPlace := ["internal/bytealg.CountString", "internal/bytealg.IndexByteString", "internal/bytealg.IndexString", "internal/abi.NoEscape", "internal/bytealg.MakeNoZero"], unfollowed := true, recurses := true, named := ["unicode/utf8.first", "unicode/utf8.acceptRanges", "internal/bytealg.MaxLen"], apart := false, laid := [("unicode/utf8.acceptRanges", laid_unicode_utf8_acceptRanges), ("unicode/utf8.first", laid_unicode_utf8_first)], narrowed := true }
def UnitTellsUptoSaid : Prop := unitTellsUptoRow.holds Tryz.pinned (OpenSpec.upto unitTellsSpec)

/-- 'isochronlaw04.UnitReads', WHERE WHAT IT READS IS OF BULK AT MOST 1048576: true; the input reads as it did. -/
def unitReadsUptoRow : OpenClaim := { program := "ytopjmiklpnejmaagreatdoor", sum := "72417724f11a6c35cfff21561a421cf86c1a64b80c8d28c8586806c35b27fb08", func := "isochron/isochronlaw04.UnitReads", spec := "unitReads", inPlace := ["internal/bytealg.CountString", "internal/bytealg.IndexByteString", "internal/bytealg.IndexString", "internal/abi.NoEscape", "internal/bytealg.MakeNoZero"], unfollowed := true, recurses := true, named := ["unicode/utf8.first", "unicode/utf8.acceptRanges", "internal/bytealg.MaxLen"], apart := false, laid := [("unicode/utf8.acceptRanges", laid_unicode_utf8_acceptRanges), ("unicode/utf8.first", laid_unicode_utf8_first)], narrowed := true }
def UnitReadsUptoSaid : Prop := unitReadsUptoRow.holds Tryz.pinned (OpenSpec.upto unitReadsSpec)

/-- 'isochronlaw04.UnitGuards', WHERE WHAT IT READS IS OF BULK AT MOST 1048576: true; the input reads as it did. -/
def unitGuardsUptoRow : OpenClaim := { program := "ytopjmiklpnejmaagreatdoor", sum := "72417724f11a6c35cfff21561a421cf86c1a64b80c8d28c8586806c35b27fb08", func := "isochron/isochronlaw04.UnitGuards", spec := "unitGuards", inPlace := ["internal/bytealg.CountString", "internal/bytealg.IndexByteString", "internal/bytealg.IndexString", "internal/abi.NoEscape", "internal/bytealg.MakeNoZero"], unfollowed := true, recurses := true, named := ["unicode/utf8.first", "unicode/utf8.acceptRanges", "internal/bytealg.MaxLen"], apart := false, laid := [("unicode/utf8.acceptRanges", laid_unicode_utf8_acceptRanges), ("unicode/utf8.first", laid_unicode_utf8_first)], narrowed := true }
def UnitGuardsUptoSaid : Prop := unitGuardsUptoRow.holds Tryz.pinned (OpenSpec.upto unitGuardsSpec)

/-- 'isochronlaw04.UnitStrips', WHERE WHAT IT READS IS OF BULK AT MOST 1048576: true; the input reads as it did. -/
def unitStripsUptoRow : OpenClaim := { program := "ytopjmiklpnejmaagreatdoor", sum := "72417724f11a6c35cfff21561a421cf86c1a64b80c8d28c8586806c35b27fb08", func := "isochron/isochronlaw04.UnitStrips", spec := "unitStrips", inPlace := ["internal/bytealg.CountString", "internal/bytealg.IndexByteString", "internal/bytealg.IndexString", "internal/abi.NoEscape", "internal/bytealg.MakeNoZero"], unfollowed := true, recurses := true, named := ["unicode/utf8.first", "unicode/utf8.acceptRanges", "internal/bytealg.MaxLen"], apart := false, laid := [("unicode/utf8.acceptRanges", laid_unicode_utf8_acceptRanges), ("unicode/utf8.first", laid_unicode_utf8_first)], narrowed := true }
def UnitStripsUptoSaid : Prop := unitStripsUptoRow.holds Tryz.pinned (OpenSpec.upto unitStripsSpec)

/-- 'isochronlaw04.UnitWrites', WHERE WHAT IT READS IS OF BULK AT MOST 1048576: true; the input reads as it did. -/
def unitWritesUptoRow : OpenClaim := { program := "ytopjmiklpnejmaagreatdoor", sum := "72417724f11a6c35cfff21561a421cf86c1a64b80c8d28c8586806c35b27fb08", func := "isochron/isochronlaw04.UnitWrites", spec := "unitWrites", inPlace := ["internal/bytealg.CountString", "internal/bytealg.IndexByteString", "internal/bytealg.IndexString", "internal/abi.NoEscape", "internal/bytealg.MakeNoZero"], unfollowed := true, recurses := true, named := ["unicode/utf8.first", "unicode/utf8.acceptRanges", "internal/bytealg.MaxLen"], apart := false, laid := [("unicode/utf8.acceptRanges", laid_unicode_utf8_acceptRanges), ("unicode/utf8.first", laid_unicode_utf8_first)], narrowed := true }
def UnitWritesUptoSaid : Prop := unitWritesUptoRow.holds Tryz.pinned (OpenSpec.upto unitWritesSpec)

/-- 'isochronlaw04.UnitMakesSound', WHERE WHAT IT READS IS OF BULK AT MOST 1048576: true; the input reads as it did. -/
def unitMakesSoundUptoRow : OpenClaim := { program := "ytopjmiklpnejmaagreatdoor", sum := "72417724f11a6c35cfff21561a421cf86c1a64b80c8d28c8586806c35b27fb08", func := "isochron/isochronlaw04.UnitMakesSound", spec := "unitMakesSound", inPlace := ["internal/bytealg.CountString", "internal/bytealg.IndexByteString", "internal/bytealg.IndexString", "internal/abi.NoEscape", "internal/bytealg.MakeNoZero"], unfollowed := true, recurses := true, named := ["unicode/utf8.first", "unicode/utf8.acceptRanges", "internal/bytealg.MaxLen"], apart := false, laid := [("unicode/utf8.acceptRanges", laid_unicode_utf8_acceptRanges), ("unicode/utf8.first", laid_unicode_utf8_first)], narrowed := true }
def UnitMakesSoundUptoSaid : Prop := unitMakesSoundUptoRow.holds Tryz.pinned (OpenSpec.upto unitMakesSoundSpec)

end Rows
end Go.Proofs.YtopjmiklpnejmaaGreatDoor
