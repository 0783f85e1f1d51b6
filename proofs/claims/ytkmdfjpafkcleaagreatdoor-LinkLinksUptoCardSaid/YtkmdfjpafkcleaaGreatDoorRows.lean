/-
  NARROWER THAN 'FOR EVERY INPUT', by the rows' own cells (each row's printed sentence says how): LinkOrders: laid · LinkChecks: laid · LinkLinks: laid · LinkSends: laid · LinkClasses: laid · LinkMethods: laid · LinkReaches: laid · LinkUnloads: laid · LinkNeeds: laid.
  DERIVED. THE GIVEN ROWS OF THIS SEAT. 9 by the template 'for every input the law returns true; each argument reads behind the call as it read before'; 0 by the template 'total and deterministic' (their statements: YtkmdfjpafkcleaaGreatDoorTotals.lean).
  GIVEN WITH THE SEED: the statements are not yours to turn. If you find one false, say at which input.
  Laid BY PROGRAM, IN A SANDBOX (cutbox-rows.mjs): the forced cells as the released guide's own fill.sh prints them over the translation 18aeacd1325549f9… (all of the seat's roots in one cut). By AI agents, Wed Nov 11 2026. No macro, syntax, notation, axiom, sorry.
-/
import Derived.Test.YtkmdfjpafkcleaaGreatDoorChecked
import GoSem.PinnedTables
import GoSem.Claim
import GoSem.ClaimJoined
import GoSem.ClaimMapViews
import Derived.JoinedTies
import Derived.KernelRfl
namespace Go.Proofs.YtkmdfjpafkcleaaGreatDoor
/- THE CELL 'sum', in the pinned program and in every row, IS THE sha256 OF THE DUMP (.gsa) THAT YtkmdfjpafkcleaaGreatDoorProg.lean LOADS. Nothing in Lean hashes anything: it is a label: what it is worth is what the hold of that sum in a sandbox is worth. -/
noncomputable def Tryz.pinned : Pinned := { name := "ytkmdfjpafkcleaagreatdoor", sum := "18aeacd1325549f97901feb9356d849da5b2ca698c123a5f1c9778383f502ff5", checked := Tryz.checked }
namespace Rows
def none {H : Type} : Left H := { results := [], args := [] }

/- WHAT THE LISTED PACKAGE-LEVEL VARIABLES READ AS WHEN THE CALL BEGINS. Each datum BY PROGRAM (the guide's laid-datum.mjs) off the statement by which the dump's own 'gosem.cut.vars' lays the variable. In a bare row this is a premise. The card (YtkmdfjpafkcleaaGreatDoorCards.lean) ties it to the program's text. -/
def laid_unicode_utf8_acceptRanges {H : Type} : DataW H := .agg [.agg [.lit (.int .u8 128), .lit (.int .u8 191)], .agg [.lit (.int .u8 160), .lit (.int .u8 191)], .agg [.lit (.int .u8 128), .lit (.int .u8 159)], .agg [.lit (.int .u8 144), .lit (.int .u8 191)], .agg [.lit (.int .u8 128), .lit (.int .u8 143)], .agg [.lit (.int .u8 0), .lit (.int .u8 0)], .agg [.lit (.int .u8 0), .lit (.int .u8 0)], .agg [.lit (.int .u8 0), .lit (.int .u8 0)], .agg [.lit (.int .u8 0), .lit (.int .u8 0)], .agg [.lit (.int .u8 0), .lit (.int .u8 0)], .agg [.lit (.int .u8 0), .lit (.int .u8 0)], .agg [.lit (.int .u8 0), .lit (.int .u8 0)], .agg [.lit (.int .u8 0), .lit (.int .u8 0)], .agg [.lit (.int .u8 0), .lit (.int .u8 0)], .agg [.lit (.int .u8 0), .lit (.int .u8 0)], .agg [.lit (.int .u8 0), .lit (.int .u8 0)]]
/-- One of Go's own tables, pinned by name: the form's constant. -/
def laid_unicode_utf8_first : DataW Unit := Go.Pinned.utf8First

/-- 'isochronlaw05.LinkOrders': WHATEVER THE INPUT: true; the input reads as it did. -/
def linkOrdersSpec : ChangeSpec := { name := "linkOrders", fn := fun _ => fun
  | [d1, d2] => { results := [.lit (.bool true)], args := [d1, d2] }
  | _ => none }
def linkOrdersRow : OpenClaim := { program := "ytkmdfjpafkcleaagreatdoor", sum := "18aeacd1325549f97901feb9356d849da5b2ca698c123a5f1c9778383f502ff5", func := "isochron/isochronlaw05.LinkOrders", spec := "linkOrders", inPlace := ["internal/bytealg.CountString", "internal/bytealg.IndexByteString", "internal/bytealg.IndexString", "internal/abi.NoEscape", "internal/bytealg.MakeNoZero"], unfollowed := true, recurses := true, named := ["unicode/utf8.first", "unicode/utf8.acceptRanges", "internal/bytealg.MaxLen"], apart := false, laid := [("unicode/utf8.acceptRanges", laid_unicode_utf8_acceptRanges), ("unicode/utf8.first", laid_unicode_utf8_first)] }
def LinkOrdersSaid : Prop := linkOrdersRow.holds Tryz.pinned (OpenSpec.ofChange linkOrdersSpec)

/-- ITS FALSE NEIGHBOUR: 'it returns false'. Refute it at one input. -/
def linkOrdersWrong : ChangeSpec := { name := "linkOrders", fn := fun _ => fun
  | [d1, d2] => { results := [.lit (.bool false)], args := [d1, d2] }
  | _ => none }
def LinkOrdersWrongFalsely : Prop := linkOrdersRow.holds Tryz.pinned (OpenSpec.ofChange linkOrdersWrong)

/-- 'isochronlaw05.LinkChecks': WHATEVER THE INPUT: true; the input reads as it did. -/
def linkChecksSpec : ChangeSpec := { name := "linkChecks", fn := fun _ => fun
  | [d] => { results := [.lit (.bool true)], args := [d] }
  | _ => none }
def linkChecksRow : OpenClaim := { program := "ytkmdfjpafkcleaagreatdoor", sum := "18aeacd1325549f97901feb9356d849da5b2ca698c123a5f1c9778383f502ff5", func := "isochron/isochronlaw05.LinkChecks", spec := "linkChecks", inPlace := ["internal/bytealg.CountString", "internal/bytealg.IndexByteString", "internal/bytealg.IndexString", "internal/abi.NoEscape", "internal/bytealg.MakeNoZero"], unfollowed := true, recurses := true, named := ["unicode/utf8.first", "unicode/utf8.acceptRanges", "internal/bytealg.MaxLen"], apart := false, laid := [("unicode/utf8.acceptRanges", laid_unicode_utf8_acceptRanges), ("unicode/utf8.first", laid_unicode_utf8_first)] }
def LinkChecksSaid : Prop := linkChecksRow.holds Tryz.pinned (OpenSpec.ofChange linkChecksSpec)

/-- ITS FALSE NEIGHBOUR: 'it returns false'. Refute it at one input. -/
def linkChecksWrong : ChangeSpec := { name := "linkChecks", fn := fun _ => fun
  | [d] => { results := [.lit (.bool false)], args := [d] }
  | _ => none }
def LinkChecksWrongFalsely : Prop := linkChecksRow.holds Tryz.pinned (OpenSpec.ofChange linkChecksWrong)

/-- 'isochronlaw05.LinkLinks': WHATEVER THE INPUT: true; the input reads as it did. -/
def linkLinksSpec : ChangeSpec := { name := "linkLinks", fn := fun _ => fun
  | [d] => { results := [.lit (.bool true)], args := [d] }
  | _ => none }
def linkLinksRow : OpenClaim := { program := "ytkmdfjpafkcleaagreatdoor", sum := "18aeacd1325549f97901feb9356d849da5b2ca698c123a5f1c9778383f502ff5", func := "isochron/isochronlaw05.LinkLinks", spec := "linkLinks", inPlace := ["internal/bytealg.CountString", "internal/bytealg.IndexByteString", "internal/bytealg.IndexString", "internal/abi.NoEscape", "internal/bytealg.MakeNoZero"], unfollowed := true, recurses := true, named := ["unicode/utf8.first", "unicode/utf8.acceptRanges", "internal/bytealg.MaxLen"], apart := false, laid := [("unicode/utf8.acceptRanges", laid_unicode_utf8_acceptRanges), ("unicode/utf8.first", laid_unicode_utf8_first)] }
def LinkLinksSaid : Prop := linkLinksRow.holds Tryz.pinned (OpenSpec.ofChange linkLinksSpec)

/-- ITS FALSE NEIGHBOUR: 'it returns false'. Refute it at one input. -/
def linkLinksWrong : ChangeSpec := { name := "linkLinks", fn := fun _ => fun
  | [d] => { results := [.lit (.bool false)], args := [d] }
  | _ => none }
def LinkLinksWrongFalsely : Prop := linkLinksRow.holds Tryz.pinned (OpenSpec.ofChange linkLinksWrong)

/-- 'isochronlaw05.LinkSends': WHATEVER THE INPUT: true; the input reads as it did. -/
def linkSendsSpec : ChangeSpec := { name := "linkSends", fn := fun _ => fun
  | [d1, d2, d3] => { results := [.lit (.bool true)], args := [d1, d2, d3] }
  | _ => none }
def linkSendsRow : OpenClaim := { program := "ytkmdfjpafkcleaagreatdoor", sum := "18aeacd1325549f97901feb9356d849da5b2ca698c123a5f1c9778383f502ff5", func := "isochron/isochronlaw05.LinkSends", spec := "linkSends", inPlace := ["internal/bytealg.CountString", "internal/bytealg.IndexByteString", "internal/bytealg.IndexString", "internal/abi.NoEscape", "internal/bytealg.MakeNoZero"], unfollowed := true, recurses := true, named := ["unicode/utf8.first", "unicode/utf8.acceptRanges", "internal/bytealg.MaxLen"], apart := false, laid := [("unicode/utf8.acceptRanges", laid_unicode_utf8_acceptRanges), ("unicode/utf8.first", laid_unicode_utf8_first)] }
def LinkSendsSaid : Prop := linkSendsRow.holds Tryz.pinned (OpenSpec.ofChange linkSendsSpec)

/-- ITS FALSE NEIGHBOUR: 'it returns false'. Refute it at one input. -/
def linkSendsWrong : ChangeSpec := { name := "linkSends", fn := fun _ => fun
  | [d1, d2, d3] => { results := [.lit (.bool false)], args := [d1, d2, d3] }
  | _ => none }
def LinkSendsWrongFalsely : Prop := linkSendsRow.holds Tryz.pinned (OpenSpec.ofChange linkSendsWrong)

/-- 'isochronlaw05.LinkClasses': WHATEVER THE INPUT: true; the input reads as it did. -/
def linkClassesSpec : ChangeSpec := { name := "linkClasses", fn := fun _ => fun
  | [d1, d2, d3] => { results := [.lit (.bool true)], args := [d1, d2, d3] }
  | _ => none }
def linkClassesRow : OpenClaim := { program := "ytkmdfjpafkcleaagreatdoor", sum := "18aeacd1325549f97901feb9356d849da5b2ca698c123a5f1c9778383f502ff5", func := "isochron/isochronlaw05.LinkClasses", spec := "linkClasses", inPlace := ["internal/bytealg.CountString", "internal/bytealg.IndexByteString", "internal/bytealg.IndexString", "internal/abi.NoEscape", "internal/bytealg.MakeNoZero"], unfollowed := true, recurses := true, named := ["unicode/utf8.first", "unicode/utf8.acceptRanges", "internal/bytealg.MaxLen"], apart := false, laid := [("unicode/utf8.acceptRanges", laid_unicode_utf8_acceptRanges), ("unicode/utf8.first", laid_unicode_utf8_first)] }
def LinkClassesSaid : Prop := linkClassesRow.holds Tryz.pinned (OpenSpec.ofChange linkClassesSpec)

/-- ITS FALSE NEIGHBOUR: 'it returns false'. Refute it at one input. -/
def linkClassesWrong : ChangeSpec := { name := "linkClasses", fn := fun _ => fun
  | [d1, d2, d3] => { results := [.lit (.bool false)], args := [d1, d2, d3] }
  | _ => none }
def LinkClassesWrongFalsely : Prop := linkClassesRow.holds Tryz.pinned (OpenSpec.ofChange linkClassesWrong)

/-- 'isochronlaw05.LinkMethods': WHATEVER THE INPUT: true; the input reads as it did. -/
def linkMethodsSpec : ChangeSpec := { name := "linkMethods", fn := fun _ => fun
  | [d1, d2] => { results := [.lit (.bool true)], args := [d1, d2] }
  | _ => none }
def linkMethodsRow : OpenClaim := { program := "ytkmdfjpafkcleaagreatdoor", sum := "18aeacd1325549f97901feb9356d849da5b2ca698c123a5f1c9778383f502ff5", func := "isochron/isochronlaw05.LinkMethods", spec := "linkMethods", inPlace := ["internal/bytealg.CountString", "internal/bytealg.IndexByteString", "internal/bytealg.IndexString", "internal/abi.NoEscape", "internal/bytealg.MakeNoZero"], unfollowed := true, recurses := true, named := ["unicode/utf8.first", "unicode/utf8.acceptRanges", "internal/bytealg.MaxLen"], apart := false, laid := [("unicode/utf8.acceptRanges", laid_unicode_utf8_acceptRanges), ("unicode/utf8.first", laid_unicode_utf8_first)] }
def LinkMethodsSaid : Prop := linkMethodsRow.holds Tryz.pinned (OpenSpec.ofChange linkMethodsSpec)

/-- ITS FALSE NEIGHBOUR: 'it returns false'. Refute it at one input. -/
def linkMethodsWrong : ChangeSpec := { name := "linkMethods", fn := fun _ => fun
  | [d1, d2] => { results := [.lit (.bool false)], args := [d1, d2] }
  | _ => none }
def LinkMethodsWrongFalsely : Prop := linkMethodsRow.holds Tryz.pinned (OpenSpec.ofChange linkMethodsWrong)

/-- 'isochronlaw05.LinkReaches': WHATEVER THE INPUT: true; the input reads as it did. -/
def linkReachesSpec : ChangeSpec := { name := "linkReaches", fn := fun _ => fun
  | [d1, d2, d3] => { results := [.lit (.bool true)], args := [d1, d2, d3] }
  | _ => none }
def linkReachesRow : OpenClaim := { program := "ytkmdfjpafkcleaagreatdoor", sum := "18aeacd1325549f97901feb9356d849da5b2ca698c123a5f1c9778383f502ff5", func := "isochron/isochronlaw05.LinkReaches", spec := "linkReaches", inPlace := ["internal/bytealg.CountString", "internal/bytealg.IndexByteString", "internal/bytealg.IndexString", "internal/abi.NoEscape", "internal/bytealg.MakeNoZero"], unfollowed := true, recurses := true, named := ["unicode/utf8.first", "unicode/utf8.acceptRanges", "internal/bytealg.MaxLen"], apart := false, laid := [("unicode/utf8.acceptRanges", laid_unicode_utf8_acceptRanges), ("unicode/utf8.first", laid_unicode_utf8_first)] }
def LinkReachesSaid : Prop := linkReachesRow.holds Tryz.pinned (OpenSpec.ofChange linkReachesSpec)

/-- ITS FALSE NEIGHBOUR: 'it returns false'. Refute it at one input. -/
def linkReachesWrong : ChangeSpec := { name := "linkReaches", fn := fun _ => fun
  | [d1, d2, d3] => { results := [.lit (.bool false)], args := [d1, d2, d3] }
  | _ => none }
def LinkReachesWrongFalsely : Prop := linkReachesRow.holds Tryz.pinned (OpenSpec.ofChange linkReachesWrong)

/-- 'isochronlaw05.LinkUnloads': WHATEVER THE INPUT: true; the input reads as it did. -/
def linkUnloadsSpec : ChangeSpec := { name := "linkUnloads", fn := fun _ => fun
  | [d1, d2] => { results := [.lit (.bool true)], args := [d1, d2] }
  | _ => none }
def linkUnloadsRow : OpenClaim := { program := "ytkmdfjpafkcleaagreatdoor", sum := "18aeacd1325549f97901feb9356d849da5b2ca698c123a5f1c9778383f502ff5", func := "isochron/isochronlaw05.LinkUnloads", spec := "linkUnloads", inPlace := ["internal/bytealg.CountString", "internal/bytealg.IndexByteString", "internal/bytealg.IndexString", "internal/abi.NoEscape", "internal/bytealg.MakeNoZero"], unfollowed := true, recurses := true, named := ["unicode/utf8.first", "unicode/utf8.acceptRanges", "internal/bytealg.MaxLen"], apart := false, laid := [("unicode/utf8.acceptRanges", laid_unicode_utf8_acceptRanges), ("unicode/utf8.first", laid_unicode_utf8_first)] }
def LinkUnloadsSaid : Prop := linkUnloadsRow.holds Tryz.pinned (OpenSpec.ofChange linkUnloadsSpec)

/-- ITS FALSE NEIGHBOUR: 'it returns false'. Refute it at one input. -/
def linkUnloadsWrong : ChangeSpec := { name := "linkUnloads", fn := fun _ => fun
  | [d1, d2] => { results := [.lit (.bool false)], args := [d1, d2] }
  | _ => none }
def LinkUnloadsWrongFalsely : Prop := linkUnloadsRow.holds Tryz.pinned (OpenSpec.ofChange linkUnloadsWrong)

/-- 'isochronlaw05.LinkNeeds': WHATEVER THE INPUT: true; the input reads as it did. -/
def linkNeedsSpec : ChangeSpec := { name := "linkNeeds", fn := fun _ => fun
  | [d1, d2] => { results := [.lit (.bool true)], args := [d1, d2] }
  | _ => none }
def linkNeedsRow : OpenClaim := { program := "ytkmdfjpafkcleaagreatdoor", sum := "18aeacd1325549f97901feb9356d849da5b2ca698c123a5f1c9778383f502ff5", func := "isochron/isochronlaw05.LinkNeeds", spec := "linkNeeds", inPlace := ["internal/bytealg.CountString", "internal/bytealg.IndexByteString", "internal/bytealg.IndexString", "internal/abi.NoEscape", "internal/bytealg.MakeNoZero"], unfollowed := true, recurses := true, named := ["unicode/utf8.first", "unicode/utf8.acceptRanges", "internal/bytealg.MaxLen"], apart := false, laid := [("unicode/utf8.acceptRanges", laid_unicode_utf8_acceptRanges), ("unicode/utf8.first", laid_unicode_utf8_first)] }
def LinkNeedsSaid : Prop := linkNeedsRow.holds Tryz.pinned (OpenSpec.ofChange linkNeedsSpec)

/-- ITS FALSE NEIGHBOUR: 'it returns false'. Refute it at one input. -/
def linkNeedsWrong : ChangeSpec := { name := "linkNeeds", fn := fun _ => fun
  | [d1, d2] => { results := [.lit (.bool false)], args := [d1, d2] }
  | _ => none }
def LinkNeedsWrongFalsely : Prop := linkNeedsRow.holds Tryz.pinned (OpenSpec.ofChange linkNeedsWrong)

/- THE SECOND FORM. 'bulk': how many values and letters a reading holds, each counted each time it is reached (what is shared counts as often as it is met; a slice's spare places count too). A statement '..UptoSaid' is the law's where the arguments, and the package variables that the reading takes, are together of bulk at most 1048576: NARROWER than '..Said'. Prove '..Said' where nothing that the law and all that it calls make is longer than what came in: it says more and counts as full. Else prove '..UptoSaid'. A law counts once. -/
mutual
def uptoBulk {H : Type} : DataW H → Nat
  | .lit (.string bytes) => bytes.length + 1
  | .lit _ => 1
  | .nil => 1
  | .ptr d => uptoBulk d + 1
  | .slice elems spare => uptoBulkAll elems + uptoBulkAll spare + 1
  | .agg parts => uptoBulkAll parts + 1
  | .iface _ d => uptoBulk d + 1
  | .map entries => uptoBulkEntries entries + 1
  | .held _ => 1
def uptoBulkAll {H : Type} : List (DataW H) → Nat
  | [] => 0
  | d :: r => uptoBulk d + uptoBulkAll r
def uptoBulkEntries {H : Type} : List (Lit × DataW H) → Nat
  | [] => 0
  | x :: r => uptoBulkEntry x + uptoBulkEntries r
def uptoBulkEntry {H : Type} : Lit × DataW H → Nat
  | (.string bytes, d) => bytes.length + uptoBulk d + 1
  | (_, d) => uptoBulk d + 1
 end
def uptoSmall : (H : Type) → List (DataW H) → Bool := fun _ ds => decide (uptoBulkAll ds ≤ 1048576)
def OpenSpec.upto (s : _root_.Go.ChangeSpec) : _root_.Go.OpenSpec := { _root_.Go.OpenSpec.ofChange s with cond := some uptoSmall }

/-- 'isochronlaw05.LinkOrders', WHERE WHAT IT READS IS OF BULK AT MOST 1048576: true; the input reads as it did. -/
def linkOrdersUptoRow : OpenClaim := { program := "ytkmdfjpafkcleaagreatdoor", sum := "18aeacd1325549f97901feb9356d849da5b2ca698c123a5f1c9778383f502ff5", func := "isochron/isochronlaw05.LinkOrders", spec := "linkOrders", inPlace := ["internal/bytealg.CountString", "internal/bytealg.IndexByteString", "internal/bytealg.IndexString", "internal/abi.NoEscape", "internal/bytealg.MakeNoZero"], unfollowed := true, recurses := true, named := ["unicode/utf8.first", "unicode/utf8.acceptRanges", "internal/bytealg.MaxLen"], apart := false, laid := [("unicode/utf8.acceptRanges", laid_unicode_utf8_acceptRanges), ("unicode/utf8.first", laid_unicode_utf8_first)], narrowed := true }
def LinkOrdersUptoSaid : Prop := linkOrdersUptoRow.holds Tryz.pinned (OpenSpec.upto linkOrdersSpec)

/-- 'isochronlaw05.LinkChecks', WHERE WHAT IT READS IS OF BULK AT MOST 1048576: true; the input reads as it did. -/
def linkChecksUptoRow : OpenClaim := { program := "ytkmdfjpafkcleaagreatdoor", sum := "18aeacd1325549f97901feb9356d849da5b2ca698c123a5f1c9778383f502ff5", func := "isochron/isochronlaw05.LinkChecks", spec := "linkChecks", inPlace := ["internal/bytealg.CountString", "internal/bytealg.IndexByteString", "internal/bytealg.IndexString", "internal/abi.NoEscape", "internal/bytealg.MakeNoZero"], unfollowed := true, recurses := true, named := ["unicode/utf8.first", "unicode/utf8.acceptRanges", "internal/bytealg.MaxLen"], apart := false, laid := [("unicode/utf8.acceptRanges", laid_unicode_utf8_acceptRanges), ("unicode/utf8.first", laid_unicode_utf8_first)], narrowed := true }
def LinkChecksUptoSaid : Prop := linkChecksUptoRow.holds Tryz.pinned (OpenSpec.upto linkChecksSpec)

/-- 'isochronlaw05.LinkLinks', WHERE WHAT IT READS IS OF BULK AT MOST 1048576: true; the input reads as it did. -/
def linkLinksUptoRow : OpenClaim := { program := "ytkmdfjpafkcleaagreatdoor", sum := "18aeacd1325549f97901feb9356d849da5b2ca698c123a5f1c9778383f502ff5", func := "isochron/isochronlaw05.LinkLinks", spec := "linkLinks", inPlace := ["internal/bytealg.CountString", "internal/bytealg.IndexByteString", "internal/bytealg.IndexString", "internal/abi.NoEscape", "internal/bytealg.MakeNoZero"], unfollowed := true, recurses := true, named := ["unicode/utf8.first", "unicode/utf8.acceptRanges", "internal/bytealg.MaxLen"], apart := false, laid := [("unicode/utf8.acceptRanges", laid_unicode_utf8_acceptRanges), ("unicode/utf8.first", laid_unicode_utf8_first)], narrowed := true }
def LinkLinksUptoSaid : Prop := linkLinksUptoRow.holds Tryz.pinned (OpenSpec.upto linkLinksSpec)

/-- 'isochronlaw05.LinkSends', WHERE WHAT IT READS IS OF BULK AT MOST 1048576: true; the input reads as it did. -/
def linkSendsUptoRow : OpenClaim := { program := "ytkmdfjpafkcleaagreatdoor", sum := "18aeacd1325549f97901feb9356d849da5b2ca698c123a5f1c9778383f502ff5", func := "isochron/isochronlaw05.LinkSends", spec := "linkSends", inPlace := ["internal/bytealg.CountString", "internal/bytealg.IndexByteString", "internal/bytealg.IndexString", "internal/abi.NoEscape", "internal/bytealg.MakeNoZero"], unfollowed := true, recurses := true, named := ["unicode/utf8.first", "unicode/utf8.acceptRanges", "internal/bytealg.MaxLen"], apart := false, laid := [("unicode/utf8.acceptRanges", laid_unicode_utf8_acceptRanges), ("unicode/utf8.first", laid_unicode_utf8_first)], narrowed := true }
def LinkSendsUptoSaid : Prop := linkSendsUptoRow.holds Tryz.pinned (OpenSpec.upto linkSendsSpec)

/-- 'isochronlaw05.LinkClasses', WHERE WHAT IT READS IS OF BULK AT MOST 1048576: true; the input reads as it did. -/
def linkClassesUptoRow : OpenClaim := { program := "ytkmdfjpafkcleaagreatdoor", sum := "18aeacd1325549f97901feb9356d849da5b2ca698c123a5f1c9778383f502ff5", func := "isochron/isochronlaw05.LinkClasses", spec := "linkClasses", inPlace := ["internal/bytealg.CountString", "internal/bytealg.IndexByteString", "internal/bytealg.IndexString", "internal/abi.NoEscape", "internal/bytealg.MakeNoZero"], unfollowed := true, recurses := true, named := ["unicode/utf8.first", "unicode/utf8.acceptRanges", "internal/bytealg.MaxLen"], apart := false, laid := [("unicode/utf8.acceptRanges", laid_unicode_utf8_acceptRanges), ("unicode/utf8.first", laid_unicode_utf8_first)], narrowed := true }
def LinkClassesUptoSaid : Prop := linkClassesUptoRow.holds Tryz.pinned (OpenSpec.upto linkClassesSpec)

/-- 'isochronlaw05.LinkMethods', WHERE WHAT IT READS IS OF BULK AT MOST 1048576: true; the input reads as it did. -/
def linkMethodsUptoRow : OpenClaim := { program := "ytkmdfjpafkcleaagreatdoor", sum := "18aeacd1325549f97901feb9356d849da5b2ca698c123a5f1c9778383f502ff5", func := "isochron/isochronlaw05.LinkMethods", spec := "linkMethods", inPlace := ["internal/bytealg.CountString", "internal/bytealg.IndexByteString", "internal/bytealg.IndexString", "internal/abi.NoEscape", "internal/bytealg.MakeNoZero"], unfollowed := true, recurses := true, named := ["unicode/utf8.first", "unicode/utf8.acceptRanges", "internal/bytealg.MaxLen"], apart := false, laid := [("unicode/utf8.acceptRanges", laid_unicode_utf8_acceptRanges), ("unicode/utf8.first", laid_unicode_utf8_first)], narrowed := true }
def LinkMethodsUptoSaid : Prop := linkMethodsUptoRow.holds Tryz.pinned (OpenSpec.upto linkMethodsSpec)

/-- 'isochronlaw05.LinkReaches', WHERE WHAT IT READS IS OF BULK AT MOST 1048576: true; the input reads as it did. -/
def linkReachesUptoRow : OpenClaim := { program := "ytkmdfjpafkcleaagreatdoor", sum := "18aeacd1325549f97901feb9356d849da5b2ca698c123a5f1c9778383f502ff5", func := "isochron/isochronlaw05.LinkReaches", spec := "linkReaches", inPlace := ["internal/bytealg.CountString", "internal/bytealg.IndexByteString", "internal/bytealg.IndexString", "internal/abi.NoEscape", "internal/bytealg.MakeNoZero"], unfollowed := true, recurses := true, named := ["unicode/utf8.first", "unicode/utf8.acceptRanges", "internal/bytealg.MaxLen"], apart := false, laid := [("unicode/utf8.acceptRanges", laid_unicode_utf8_acceptRanges), ("unicode/utf8.first", laid_unicode_utf8_first)], narrowed := true }
def LinkReachesUptoSaid : Prop := linkReachesUptoRow.holds Tryz.pinned (OpenSpec.upto linkReachesSpec)

/-- 'isochronlaw05.LinkUnloads', WHERE WHAT IT READS IS OF BULK AT MOST 1048576: true; the input reads as it did. -/
def linkUnloadsUptoRow : OpenClaim := { program := "ytkmdfjpafkcleaagreatdoor", sum := "18aeacd1325549f97901feb9356d849da5b2ca698c123a5f1c9778383f502ff5", func := "isochron/isochronlaw05.LinkUnloads", spec := "linkUnloads", inPlace := ["internal/bytealg.CountString", "internal/bytealg.IndexByteString", "internal/bytealg.IndexString", "internal/abi.NoEscape", "internal/bytealg.MakeNoZero"], unfollowed := true, recurses := true, named := ["unicode/utf8.first", "unicode/utf8.acceptRanges", "internal/bytealg.MaxLen"], apart := false, laid := [("unicode/utf8.acceptRanges", laid_unicode_utf8_acceptRanges), ("unicode/utf8.first", laid_unicode_utf8_first)], narrowed := true }
def LinkUnloadsUptoSaid : Prop := linkUnloadsUptoRow.holds Tryz.pinned (OpenSpec.upto linkUnloadsSpec)

/-- 'isochronlaw05.LinkNeeds', WHERE WHAT IT READS IS OF BULK AT MOST 1048576: true; the input reads as it did. -/
def linkNeedsUptoRow : OpenClaim := { program := "ytkmdfjpafkcleaagreatdoor", sum := "18aeacd1325549f97901feb9356d849da5b2ca698c123a5f1c9778383f502ff5", func := "isochron/isochronlaw05.LinkNeeds", spec := "linkNeeds", inPlace := ["internal/bytealg.CountString", "internal/bytealg.IndexByteString", "internal/bytealg.IndexString", "internal/abi.NoEscape", "internal/bytealg.MakeNoZero"], unfollowed := true, recurses := true, named := ["unicode/utf8.first", "unicode/utf8.acceptRanges", "internal/bytealg.MaxLen"], apart := false, laid := [("unicode/utf8.acceptRanges", laid_unicode_utf8_acceptRanges), ("unicode/utf8.first", laid_unicode_utf8_first)], narrowed := true }
def LinkNeedsUptoSaid : Prop := linkNeedsUptoRow.holds Tryz.pinned (OpenSpec.upto linkNeedsSpec)

end Rows
end Go.Proofs.YtkmdfjpafkcleaaGreatDoor
