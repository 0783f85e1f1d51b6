/-
  DERIVED. GIVEN WITH THE SEED: THE CARDS: each row of YtejohpjhonjcjaaGreatDoorRows.lean that lists a variable, with what it lists TIED to the program's text (the seventh form; the later family's looks); each row that meets fmt, with fmt's text TOLD by the authors' own Lean function (tested against real Go, not proved from fmt's source: count such statements apart). THE CARD IS WHAT COUNTS. Prove the row's statement (the work); the ties are given (YtejohpjhonjcjaaGreatDoorTie.lean); close each card by the builder's one call (the guide's Derived/Test/ToyasCard.lean, 'card_holds'). Laid BY PROGRAM, IN A SANDBOX (cutbox-door.mjs). By AI agents, Wed Nov 11 2026. No macro, syntax, notation, axiom, sorry.
-/
import Derived.Test.YtejohpjhonjcjaaGreatDoorRows
import GoSem.ClaimSeven
namespace Go.Proofs.YtejohpjhonjcjaaGreatDoor
namespace Rows

/-- THE TIED CARD OF 'isochronlaw28.ReplayReads'. -/
def replayReadsCard : Claim7 := { stood := { row := replayReadsRow, standIns := [], harness := (true, "f6c9913937b1712883164ccc8331b6a9c2462933564da628e6279930eacd3cc5"), looks := true }, kinds := [], alts := [], laidByText := true, laidKinds := [.data, .data, .data, .data, .sentinel, .sentinel, .pinned], laidTests := true, laidLooks := .later }
def ReplayReadsCardSaid : Prop := Claim7.holds Tryz.pinned (.plain (OpenSpec.ofChange replayReadsSpec)) replayReadsCard

/-- THE TIED CARD OF 'isochronlaw28.ReplayWrites'. -/
def replayWritesCard : Claim7 := { stood := { row := replayWritesRow, standIns := [], harness := (true, "f6c9913937b1712883164ccc8331b6a9c2462933564da628e6279930eacd3cc5"), looks := true }, kinds := [], alts := [], laidByText := true, laidKinds := [.data, .data, .data, .data, .sentinel, .sentinel, .pinned], laidTests := true, laidLooks := .later }
def ReplayWritesCardSaid : Prop := Claim7.holds Tryz.pinned (.plain (OpenSpec.ofChange replayWritesSpec)) replayWritesCard

/-- THE SECOND FORM's CARD OF 'isochronlaw28.ReplayReads'. -/
def replayReadsUptoCard : Claim7 := { stood := { row := replayReadsUptoRow, standIns := [], harness := (true, "f6c9913937b1712883164ccc8331b6a9c2462933564da628e6279930eacd3cc5"), looks := true }, kinds := [], alts := [], laidByText := true, laidKinds := [.data, .data, .data, .data, .sentinel, .sentinel, .pinned], laidTests := true, laidLooks := .later }
def ReplayReadsUptoCardSaid : Prop := Claim7.holds Tryz.pinned (.plain (OpenSpec.upto replayReadsSpec)) replayReadsUptoCard

/-- THE SECOND FORM's CARD OF 'isochronlaw28.ReplayWrites'. -/
def replayWritesUptoCard : Claim7 := { stood := { row := replayWritesUptoRow, standIns := [], harness := (true, "f6c9913937b1712883164ccc8331b6a9c2462933564da628e6279930eacd3cc5"), looks := true }, kinds := [], alts := [], laidByText := true, laidKinds := [.data, .data, .data, .data, .sentinel, .sentinel, .pinned], laidTests := true, laidLooks := .later }
def ReplayWritesUptoCardSaid : Prop := Claim7.holds Tryz.pinned (.plain (OpenSpec.upto replayWritesSpec)) replayWritesUptoCard
end Rows
end Go.Proofs.YtejohpjhonjcjaaGreatDoor
