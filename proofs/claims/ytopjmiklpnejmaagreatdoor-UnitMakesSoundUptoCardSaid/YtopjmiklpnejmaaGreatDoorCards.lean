/-
  DERIVED. GIVEN WITH THE SEED: THE CARDS: each row of YtopjmiklpnejmaaGreatDoorRows.lean that lists a variable, with what it lists TIED to the program's text (the seventh form; the later family's looks); each row that meets fmt, with fmt's text TOLD by the authors' own Lean function (tested against real Go, not proved from fmt's source: count such statements apart). THE CARD IS WHAT COUNTS. Prove the row's statement (the work); the ties are given (YtopjmiklpnejmaaGreatDoorTie.lean); close each card by the builder's one call (the guide's Derived/Test/ToyasCard.lean, 'card_holds'). Laid BY PROGRAM, IN A SANDBOX (cutbox-door.mjs). By AI agents, Wed Nov 11 2026. No macro, syntax, notation, axiom, sorry.
-/
import Derived.Test.YtopjmiklpnejmaaGreatDoorRows
import GoSem.ClaimSeven
namespace Go.Proofs.YtopjmiklpnejmaaGreatDoor
namespace Rows

/-- THE TIED CARD OF 'isochronlaw04.UnitNames'. -/
def unitNamesCard : Claim7 := { stood := { row := unitNamesRow, standIns := [], harness := (true, "42bd8ad95dd6fd426570cd0982bf4c9b4d32f3706ca7b180e91596d51e9efec4"), looks := false }, kinds := [], alts := [], laidByText := true, laidKinds := [.data, .pinned], laidTests := true, laidLooks := .later }
def UnitNamesCardSaid : Prop := Claim7.holds Tryz.pinned (.plain (OpenSpec.ofChange unitNamesSpec)) unitNamesCard

/-- THE TIED CARD OF 'isochronlaw04.UnitChecks'. -/
def unitChecksCard : Claim7 := { stood := { row := unitChecksRow, standIns := [], harness := (true, "42bd8ad95dd6fd426570cd0982bf4c9b4d32f3706ca7b180e91596d51e9efec4"), looks := false }, kinds := [], alts := [], laidByText := true, laidKinds := [.data, .pinned], laidTests := true, laidLooks := .later }
def UnitChecksCardSaid : Prop := Claim7.holds Tryz.pinned (.plain (OpenSpec.ofChange unitChecksSpec)) unitChecksCard

/-- THE TIED CARD OF 'isochronlaw04.UnitInterns'. -/
def unitInternsCard : Claim7 := { stood := { row := unitInternsRow, standIns := [], harness := (true, "42bd8ad95dd6fd426570cd0982bf4c9b4d32f3706ca7b180e91596d51e9efec4"), looks := false }, kinds := [], alts := [], laidByText := true, laidKinds := [.data, .pinned], laidTests := true, laidLooks := .later }
def UnitInternsCardSaid : Prop := Claim7.holds Tryz.pinned (.plain (OpenSpec.ofChange unitInternsSpec)) unitInternsCard

/-- THE TIED CARD OF 'isochronlaw04.UnitCompares'. -/
def unitComparesCard : Claim7 := { stood := { row := unitComparesRow, standIns := [], harness := (true, "42bd8ad95dd6fd426570cd0982bf4c9b4d32f3706ca7b180e91596d51e9efec4"), looks := false }, kinds := [], alts := [], laidByText := true, laidKinds := [.data, .pinned], laidTests := true, laidLooks := .later }
def UnitComparesCardSaid : Prop := Claim7.holds Tryz.pinned (.plain (OpenSpec.ofChange unitComparesSpec)) unitComparesCard

/-- THE TIED CARD OF 'isochronlaw04.UnitRenames'. -/
def unitRenamesCard : Claim7 := { stood := { row := unitRenamesRow, standIns := [], harness := (true, "42bd8ad95dd6fd426570cd0982bf4c9b4d32f3706ca7b180e91596d51e9efec4"), looks := false }, kinds := [], alts := [], laidByText := true, laidKinds := [.data, .pinned], laidTests := true, laidLooks := .later }
def UnitRenamesCardSaid : Prop := Claim7.holds Tryz.pinned (.plain (OpenSpec.ofChange unitRenamesSpec)) unitRenamesCard

/-- THE TIED CARD OF 'isochronlaw04.UnitTells'. -/
def unitTellsCard : Claim7 := { stood := { row := unitTellsRow, standIns := [], harness := (true, "42bd8ad95dd6fd426570cd0982bf4c9b4d32f3706ca7b180e91596d51e9efec4"), looks := false }, kinds := [], alts := [], laidByText := true, laidKinds := [.data, .pinned], laidTests := true, laidLooks := .later }
def UnitTellsCardSaid : Prop := Claim7.holds Tryz.pinned (.plain (OpenSpec.ofChange unitTellsSpec)) unitTellsCard

/-- THE TIED CARD OF 'isochronlaw04.UnitReads'. -/
def unitReadsCard : Claim7 := { stood := { row := unitReadsRow, standIns := [], harness := (true, "42bd8ad95dd6fd426570cd0982bf4c9b4d32f3706ca7b180e91596d51e9efec4"), looks := false }, kinds := [], alts := [], laidByText := true, laidKinds := [.data, .pinned], laidTests := true, laidLooks := .later }
def UnitReadsCardSaid : Prop := Claim7.holds Tryz.pinned (.plain (OpenSpec.ofChange unitReadsSpec)) unitReadsCard

/-- THE TIED CARD OF 'isochronlaw04.UnitGuards'. -/
def unitGuardsCard : Claim7 := { stood := { row := unitGuardsRow, standIns := [], harness := (true, "42bd8ad95dd6fd426570cd0982bf4c9b4d32f3706ca7b180e91596d51e9efec4"), looks := false }, kinds := [], alts := [], laidByText := true, laidKinds := [.data, .pinned], laidTests := true, laidLooks := .later }
def UnitGuardsCardSaid : Prop := Claim7.holds Tryz.pinned (.plain (OpenSpec.ofChange unitGuardsSpec)) unitGuardsCard

/-- THE TIED CARD OF 'isochronlaw04.UnitStrips'. -/
def unitStripsCard : Claim7 := { stood := { row := unitStripsRow, standIns := [], harness := (true, "42bd8ad95dd6fd426570cd0982bf4c9b4d32f3706ca7b180e91596d51e9efec4"), looks := false }, kinds := [], alts := [], laidByText := true, laidKinds := [.data, .pinned], laidTests := true, laidLooks := .later }
def UnitStripsCardSaid : Prop := Claim7.holds Tryz.pinned (.plain (OpenSpec.ofChange unitStripsSpec)) unitStripsCard

/-- THE TIED CARD OF 'isochronlaw04.UnitWrites'. -/
def unitWritesCard : Claim7 := { stood := { row := unitWritesRow, standIns := [], harness := (true, "42bd8ad95dd6fd426570cd0982bf4c9b4d32f3706ca7b180e91596d51e9efec4"), looks := false }, kinds := [], alts := [], laidByText := true, laidKinds := [.data, .pinned], laidTests := true, laidLooks := .later }
def UnitWritesCardSaid : Prop := Claim7.holds Tryz.pinned (.plain (OpenSpec.ofChange unitWritesSpec)) unitWritesCard

/-- THE TIED CARD OF 'isochronlaw04.UnitMakesSound'. -/
def unitMakesSoundCard : Claim7 := { stood := { row := unitMakesSoundRow, standIns := [], harness := (true, "42bd8ad95dd6fd426570cd0982bf4c9b4d32f3706ca7b180e91596d51e9efec4"), looks := false }, kinds := [], alts := [], laidByText := true, laidKinds := [.data, .pinned], laidTests := true, laidLooks := .later }
def UnitMakesSoundCardSaid : Prop := Claim7.holds Tryz.pinned (.plain (OpenSpec.ofChange unitMakesSoundSpec)) unitMakesSoundCard

/-- THE SECOND FORM's CARD OF 'isochronlaw04.UnitNames'. -/
def unitNamesUptoCard : Claim7 := { stood := { row := unitNamesUptoRow, standIns := [], harness := (true, "42bd8ad95dd6fd426570cd0982bf4c9b4d32f3706ca7b180e91596d51e9efec4"), looks := false }, kinds := [], alts := [], laidByText := true, laidKinds := [.data, .pinned], laidTests := true, laidLooks := .later }
def UnitNamesUptoCardSaid : Prop := Claim7.holds Tryz.pinned (.plain (OpenSpec.upto unitNamesSpec)) unitNamesUptoCard

/-- THE SECOND FORM's CARD OF 'isochronlaw04.UnitChecks'. -/
def unitChecksUptoCard : Claim7 := { stood := { row := unitChecksUptoRow, standIns := [], harness := (true, "42bd8ad95dd6fd426570cd0982bf4c9b4d32f3706ca7b180e91596d51e9efec4"), looks := false }, kinds := [], alts := [], laidByText := true, laidKinds := [.data, .pinned], laidTests := true, laidLooks := .later }
def UnitChecksUptoCardSaid : Prop := Claim7.holds Tryz.pinned (.plain (OpenSpec.upto unitChecksSpec)) unitChecksUptoCard

/-- THE SECOND FORM's CARD OF 'isochronlaw04.UnitInterns'. -/
def unitInternsUptoCard : Claim7 := { stood := { row := unitInternsUptoRow, standIns := [], harness := (true, "42bd8ad95dd6fd426570cd0982bf4c9b4d32f3706ca7b180e91596d51e9efec4"), looks := false }, kinds := [], alts := [], laidByText := true, laidKinds := [.data, .pinned], laidTests := true, laidLooks := .later }
def UnitInternsUptoCardSaid : Prop := Claim7.holds Tryz.pinned (.plain (OpenSpec.upto unitInternsSpec)) unitInternsUptoCard

/-- THE SECOND FORM's CARD OF 'isochronlaw04.UnitCompares'. -/
def unitComparesUptoCard : Claim7 := { stood := { row := unitComparesUptoRow, standIns := [], harness := (true, "42bd8ad95dd6fd426570cd0982bf4c9b4d32f3706ca7b180e91596d51e9efec4"), looks := false }, kinds := [], alts := [], laidByText := true, laidKinds := [.data, .pinned], laidTests := true, laidLooks := .later }
def UnitComparesUptoCardSaid : Prop := Claim7.holds Tryz.pinned (.plain (OpenSpec.upto unitComparesSpec)) unitComparesUptoCard

/-- THE SECOND FORM's CARD OF 'isochronlaw04.UnitRenames'. -/
def unitRenamesUptoCard : Claim7 := { stood := { row := unitRenamesUptoRow, standIns := [], harness := (true, "42bd8ad95dd6fd426570cd0982bf4c9b4d32f3706ca7b180e91596d51e9efec4"), looks := false }, kinds := [], alts := [], laidByText := true, laidKinds := [.data, .pinned], laidTests := true, laidLooks := .later }
def UnitRenamesUptoCardSaid : Prop := Claim7.holds Tryz.pinned (.plain (OpenSpec.upto unitRenamesSpec)) unitRenamesUptoCard

/-- THE SECOND FORM's CARD OF 'isochronlaw04.UnitTells'. -/
def unitTellsUptoCard : Claim7 := { stood := { row := unitTellsUptoRow, standIns := [], harness := (true, "42bd8ad95dd6fd426570cd0982bf4c9b4d32f3706ca7b180e91596d51e9efec4"), looks := false }, kinds := [], alts := [], laidByText := true, laidKinds := [.data, .pinned], laidTests := true, laidLooks := .later }
def UnitTellsUptoCardSaid : Prop := Claim7.holds Tryz.pinned (.plain (OpenSpec.upto unitTellsSpec)) unitTellsUptoCard

/-- THE SECOND FORM's CARD OF 'isochronlaw04.UnitReads'. -/
def unitReadsUptoCard : Claim7 := { stood := { row := unitReadsUptoRow, standIns := [], harness := (true, "42bd8ad95dd6fd426570cd0982bf4c9b4d32f3706ca7b180e91596d51e9efec4"), looks := false }, kinds := [], alts := [], laidByText := true, laidKinds := [.data, .pinned], laidTests := true, laidLooks := .later }
def UnitReadsUptoCardSaid : Prop := Claim7.holds Tryz.pinned (.plain (OpenSpec.upto unitReadsSpec)) unitReadsUptoCard

/-- THE SECOND FORM's CARD OF 'isochronlaw04.UnitGuards'. -/
def unitGuardsUptoCard : Claim7 := { stood := { row := unitGuardsUptoRow, standIns := [], harness := (true, "42bd8ad95dd6fd426570cd0982bf4c9b4d32f3706ca7b180e91596d51e9efec4"), looks := false }, kinds := [], alts := [], laidByText := true, laidKinds := [.data, .pinned], laidTests := true, laidLooks := .later }
def UnitGuardsUptoCardSaid : Prop := Claim7.holds Tryz.pinned (.plain (OpenSpec.upto unitGuardsSpec)) unitGuardsUptoCard

/-- THE SECOND FORM's CARD OF 'isochronlaw04.UnitStrips'. -/
def unitStripsUptoCard : Claim7 := { stood := { row := unitStripsUptoRow, standIns := [], harness := (true, "42bd8ad95dd6fd426570cd0982bf4c9b4d32f3706ca7b180e91596d51e9efec4"), looks := false }, kinds := [], alts := [], laidByText := true, laidKinds := [.data, .pinned], laidTests := true, laidLooks := .later }
def UnitStripsUptoCardSaid : Prop := Claim7.holds Tryz.pinned (.plain (OpenSpec.upto unitStripsSpec)) unitStripsUptoCard

/-- THE SECOND FORM's CARD OF 'isochronlaw04.UnitWrites'. -/
def unitWritesUptoCard : Claim7 := { stood := { row := unitWritesUptoRow, standIns := [], harness := (true, "42bd8ad95dd6fd426570cd0982bf4c9b4d32f3706ca7b180e91596d51e9efec4"), looks := false }, kinds := [], alts := [], laidByText := true, laidKinds := [.data, .pinned], laidTests := true, laidLooks := .later }
def UnitWritesUptoCardSaid : Prop := Claim7.holds Tryz.pinned (.plain (OpenSpec.upto unitWritesSpec)) unitWritesUptoCard

/-- THE SECOND FORM's CARD OF 'isochronlaw04.UnitMakesSound'. -/
def unitMakesSoundUptoCard : Claim7 := { stood := { row := unitMakesSoundUptoRow, standIns := [], harness := (true, "42bd8ad95dd6fd426570cd0982bf4c9b4d32f3706ca7b180e91596d51e9efec4"), looks := false }, kinds := [], alts := [], laidByText := true, laidKinds := [.data, .pinned], laidTests := true, laidLooks := .later }
def UnitMakesSoundUptoCardSaid : Prop := Claim7.holds Tryz.pinned (.plain (OpenSpec.upto unitMakesSoundSpec)) unitMakesSoundUptoCard
end Rows
end Go.Proofs.YtopjmiklpnejmaaGreatDoor
