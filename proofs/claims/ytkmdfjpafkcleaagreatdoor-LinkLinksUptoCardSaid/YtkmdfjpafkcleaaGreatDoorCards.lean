/-
  DERIVED. GIVEN WITH THE SEED: THE CARDS: each row of YtkmdfjpafkcleaaGreatDoorRows.lean that lists a variable, with what it lists TIED to the program's text (the seventh form; the later family's looks); each row that meets fmt, with fmt's text TOLD by the authors' own Lean function (tested against real Go, not proved from fmt's source: count such statements apart). THE CARD IS WHAT COUNTS. Prove the row's statement (the work); the ties are given (YtkmdfjpafkcleaaGreatDoorTie.lean); close each card by the builder's one call (the guide's Derived/Test/ToyasCard.lean, 'card_holds'). Laid BY PROGRAM, IN A SANDBOX (cutbox-door.mjs). By AI agents, Wed Nov 11 2026. No macro, syntax, notation, axiom, sorry.
-/
import Derived.Test.YtkmdfjpafkcleaaGreatDoorRows
import GoSem.ClaimSeven
namespace Go.Proofs.YtkmdfjpafkcleaaGreatDoor
namespace Rows

/-- THE TIED CARD OF 'isochronlaw05.LinkOrders'. -/
def linkOrdersCard : Claim7 := { stood := { row := linkOrdersRow, standIns := [], harness := (true, "68d0cdf1713bb1c55162fc243662613bb68189d04a0ef1b26b580edadf2182f7"), looks := false }, kinds := [], alts := [], laidByText := true, laidKinds := [.data, .pinned], laidTests := true, laidLooks := .later }
def LinkOrdersCardSaid : Prop := Claim7.holds Tryz.pinned (.plain (OpenSpec.ofChange linkOrdersSpec)) linkOrdersCard

/-- THE TIED CARD OF 'isochronlaw05.LinkChecks'. -/
def linkChecksCard : Claim7 := { stood := { row := linkChecksRow, standIns := [], harness := (true, "68d0cdf1713bb1c55162fc243662613bb68189d04a0ef1b26b580edadf2182f7"), looks := false }, kinds := [], alts := [], laidByText := true, laidKinds := [.data, .pinned], laidTests := true, laidLooks := .later }
def LinkChecksCardSaid : Prop := Claim7.holds Tryz.pinned (.plain (OpenSpec.ofChange linkChecksSpec)) linkChecksCard

/-- THE TIED CARD OF 'isochronlaw05.LinkLinks'. -/
def linkLinksCard : Claim7 := { stood := { row := linkLinksRow, standIns := [], harness := (true, "68d0cdf1713bb1c55162fc243662613bb68189d04a0ef1b26b580edadf2182f7"), looks := false }, kinds := [], alts := [], laidByText := true, laidKinds := [.data, .pinned], laidTests := true, laidLooks := .later }
def LinkLinksCardSaid : Prop := Claim7.holds Tryz.pinned (.plain (OpenSpec.ofChange linkLinksSpec)) linkLinksCard

/-- THE TIED CARD OF 'isochronlaw05.LinkSends'. -/
def linkSendsCard : Claim7 := { stood := { row := linkSendsRow, standIns := [], harness := (true, "68d0cdf1713bb1c55162fc243662613bb68189d04a0ef1b26b580edadf2182f7"), looks := false }, kinds := [], alts := [], laidByText := true, laidKinds := [.data, .pinned], laidTests := true, laidLooks := .later }
def LinkSendsCardSaid : Prop := Claim7.holds Tryz.pinned (.plain (OpenSpec.ofChange linkSendsSpec)) linkSendsCard

/-- THE TIED CARD OF 'isochronlaw05.LinkClasses'. -/
def linkClassesCard : Claim7 := { stood := { row := linkClassesRow, standIns := [], harness := (true, "68d0cdf1713bb1c55162fc243662613bb68189d04a0ef1b26b580edadf2182f7"), looks := false }, kinds := [], alts := [], laidByText := true, laidKinds := [.data, .pinned], laidTests := true, laidLooks := .later }
def LinkClassesCardSaid : Prop := Claim7.holds Tryz.pinned (.plain (OpenSpec.ofChange linkClassesSpec)) linkClassesCard

/-- THE TIED CARD OF 'isochronlaw05.LinkMethods'. -/
def linkMethodsCard : Claim7 := { stood := { row := linkMethodsRow, standIns := [], harness := (true, "68d0cdf1713bb1c55162fc243662613bb68189d04a0ef1b26b580edadf2182f7"), looks := false }, kinds := [], alts := [], laidByText := true, laidKinds := [.data, .pinned], laidTests := true, laidLooks := .later }
def LinkMethodsCardSaid : Prop := Claim7.holds Tryz.pinned (.plain (OpenSpec.ofChange linkMethodsSpec)) linkMethodsCard

/-- THE TIED CARD OF 'isochronlaw05.LinkReaches'. -/
def linkReachesCard : Claim7 := { stood := { row := linkReachesRow, standIns := [], harness := (true, "68d0cdf1713bb1c55162fc243662613bb68189d04a0ef1b26b580edadf2182f7"), looks := false }, kinds := [], alts := [], laidByText := true, laidKinds := [.data, .pinned], laidTests := true, laidLooks := .later }
def LinkReachesCardSaid : Prop := Claim7.holds Tryz.pinned (.plain (OpenSpec.ofChange linkReachesSpec)) linkReachesCard

/-- THE TIED CARD OF 'isochronlaw05.LinkUnloads'. -/
def linkUnloadsCard : Claim7 := { stood := { row := linkUnloadsRow, standIns := [], harness := (true, "68d0cdf1713bb1c55162fc243662613bb68189d04a0ef1b26b580edadf2182f7"), looks := false }, kinds := [], alts := [], laidByText := true, laidKinds := [.data, .pinned], laidTests := true, laidLooks := .later }
def LinkUnloadsCardSaid : Prop := Claim7.holds Tryz.pinned (.plain (OpenSpec.ofChange linkUnloadsSpec)) linkUnloadsCard

/-- THE TIED CARD OF 'isochronlaw05.LinkNeeds'. -/
def linkNeedsCard : Claim7 := { stood := { row := linkNeedsRow, standIns := [], harness := (true, "68d0cdf1713bb1c55162fc243662613bb68189d04a0ef1b26b580edadf2182f7"), looks := false }, kinds := [], alts := [], laidByText := true, laidKinds := [.data, .pinned], laidTests := true, laidLooks := .later }
def LinkNeedsCardSaid : Prop := Claim7.holds Tryz.pinned (.plain (OpenSpec.ofChange linkNeedsSpec)) linkNeedsCard

/-- THE SECOND FORM's CARD OF 'isochronlaw05.LinkOrders'. -/
def linkOrdersUptoCard : Claim7 := { stood := { row := linkOrdersUptoRow, standIns := [], harness := (true, "68d0cdf1713bb1c55162fc243662613bb68189d04a0ef1b26b580edadf2182f7"), looks := false }, kinds := [], alts := [], laidByText := true, laidKinds := [.data, .pinned], laidTests := true, laidLooks := .later }
def LinkOrdersUptoCardSaid : Prop := Claim7.holds Tryz.pinned (.plain (OpenSpec.upto linkOrdersSpec)) linkOrdersUptoCard

/-- THE SECOND FORM's CARD OF 'isochronlaw05.LinkChecks'. -/
def linkChecksUptoCard : Claim7 := { stood := { row := linkChecksUptoRow, standIns := [], harness := (true, "68d0cdf1713bb1c55162fc243662613bb68189d04a0ef1b26b580edadf2182f7"), looks := false }, kinds := [], alts := [], laidByText := true, laidKinds := [.data, .pinned], laidTests := true, laidLooks := .later }
def LinkChecksUptoCardSaid : Prop := Claim7.holds Tryz.pinned (.plain (OpenSpec.upto linkChecksSpec)) linkChecksUptoCard

/-- THE SECOND FORM's CARD OF 'isochronlaw05.LinkLinks'. -/
def linkLinksUptoCard : Claim7 := { stood := { row := linkLinksUptoRow, standIns := [], harness := (true, "68d0cdf1713bb1c55162fc243662613bb68189d04a0ef1b26b580edadf2182f7"), looks := false }, kinds := [], alts := [], laidByText := true, laidKinds := [.data, .pinned], laidTests := true, laidLooks := .later }
def LinkLinksUptoCardSaid : Prop := Claim7.holds Tryz.pinned (.plain (OpenSpec.upto linkLinksSpec)) linkLinksUptoCard

/-- THE SECOND FORM's CARD OF 'isochronlaw05.LinkSends'. -/
def linkSendsUptoCard : Claim7 := { stood := { row := linkSendsUptoRow, standIns := [], harness := (true, "68d0cdf1713bb1c55162fc243662613bb68189d04a0ef1b26b580edadf2182f7"), looks := false }, kinds := [], alts := [], laidByText := true, laidKinds := [.data, .pinned], laidTests := true, laidLooks := .later }
def LinkSendsUptoCardSaid : Prop := Claim7.holds Tryz.pinned (.plain (OpenSpec.upto linkSendsSpec)) linkSendsUptoCard

/-- THE SECOND FORM's CARD OF 'isochronlaw05.LinkClasses'. -/
def linkClassesUptoCard : Claim7 := { stood := { row := linkClassesUptoRow, standIns := [], harness := (true, "68d0cdf1713bb1c55162fc243662613bb68189d04a0ef1b26b580edadf2182f7"), looks := false }, kinds := [], alts := [], laidByText := true, laidKinds := [.data, .pinned], laidTests := true, laidLooks := .later }
def LinkClassesUptoCardSaid : Prop := Claim7.holds Tryz.pinned (.plain (OpenSpec.upto linkClassesSpec)) linkClassesUptoCard

/-- THE SECOND FORM's CARD OF 'isochronlaw05.LinkMethods'. -/
def linkMethodsUptoCard : Claim7 := { stood := { row := linkMethodsUptoRow, standIns := [], harness := (true, "68d0cdf1713bb1c55162fc243662613bb68189d04a0ef1b26b580edadf2182f7"), looks := false }, kinds := [], alts := [], laidByText := true, laidKinds := [.data, .pinned], laidTests := true, laidLooks := .later }
def LinkMethodsUptoCardSaid : Prop := Claim7.holds Tryz.pinned (.plain (OpenSpec.upto linkMethodsSpec)) linkMethodsUptoCard

/-- THE SECOND FORM's CARD OF 'isochronlaw05.LinkReaches'. -/
def linkReachesUptoCard : Claim7 := { stood := { row := linkReachesUptoRow, standIns := [], harness := (true, "68d0cdf1713bb1c55162fc243662613bb68189d04a0ef1b26b580edadf2182f7"), looks := false }, kinds := [], alts := [], laidByText := true, laidKinds := [.data, .pinned], laidTests := true, laidLooks := .later }
def LinkReachesUptoCardSaid : Prop := Claim7.holds Tryz.pinned (.plain (OpenSpec.upto linkReachesSpec)) linkReachesUptoCard

/-- THE SECOND FORM's CARD OF 'isochronlaw05.LinkUnloads'. -/
def linkUnloadsUptoCard : Claim7 := { stood := { row := linkUnloadsUptoRow, standIns := [], harness := (true, "68d0cdf1713bb1c55162fc243662613bb68189d04a0ef1b26b580edadf2182f7"), looks := false }, kinds := [], alts := [], laidByText := true, laidKinds := [.data, .pinned], laidTests := true, laidLooks := .later }
def LinkUnloadsUptoCardSaid : Prop := Claim7.holds Tryz.pinned (.plain (OpenSpec.upto linkUnloadsSpec)) linkUnloadsUptoCard

/-- THE SECOND FORM's CARD OF 'isochronlaw05.LinkNeeds'. -/
def linkNeedsUptoCard : Claim7 := { stood := { row := linkNeedsUptoRow, standIns := [], harness := (true, "68d0cdf1713bb1c55162fc243662613bb68189d04a0ef1b26b580edadf2182f7"), looks := false }, kinds := [], alts := [], laidByText := true, laidKinds := [.data, .pinned], laidTests := true, laidLooks := .later }
def LinkNeedsUptoCardSaid : Prop := Claim7.holds Tryz.pinned (.plain (OpenSpec.upto linkNeedsSpec)) linkNeedsUptoCard
end Rows
end Go.Proofs.YtkmdfjpafkcleaaGreatDoor
